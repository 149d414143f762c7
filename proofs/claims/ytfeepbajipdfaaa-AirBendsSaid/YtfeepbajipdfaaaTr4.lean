/- A machine of plain data, part 4: what Go's code does, told by functions that Lean reckons out. It states nothing of any program. -/
import Derived.Test.YtfeepbajipdfaaaTr3
import Derived.Carry
import Derived.OpenShut
import Derived.ChangeArms
import Derived.SizedLaws
import Derived.Lib.AppendZerosOnto
import Derived.Laws.AppendOwn
import Derived.Lib.Walk
import Derived.WalkKit
namespace Go.Tm
open Go.Vm
set_option linter.unusedVariables false
set_option linter.unusedSimpArgs false
section
variable {P:Program} {N:Nat} {ops:Array Oper} {a:Act} {s s':St} {loc loc':Loc} {β β':Nat→Option (Nat × Nat)} {H H':List Ob} {S S':Nat→Nat→Prop} {w w':World} {Wr:Nat→Prop} {own0:Nat→Prop} {n0:Nat}
theorem moreD_some {x:DEnt} {r:Option (G × St × List DEnt)} {g:G} {s:St} {T:List DEnt} (h:moreD x r=some (g,s,T)):∃ T',r=some (g,s,T')∧T=x::T':=by
 unfold moreD at h
 split at h
 ·simp only [Option.some.injEq,Prod.mk.injEq] at h
  obtain ⟨rfl,rfl,rfl⟩:=h
  exact ⟨_,rfl,rfl⟩
 ·cases h
theorem thinOf_some {P:Program} {ops:Array Oper} {fr:Nat} {o:Oper} {s:St} {k:G} {y:T} {R:List Nat} (h:thinOf P ops fr o s=some (k,y,R)):thin P o (view (o.looksAt ops) (thinF o s) s)=some (k,y,R)∧(∀ q∈thinF o s,q<fr)∧∀ q∈R,Sure s q:=by
 unfold thinOf at h
 split at h
 ·rename_i k' y' R' ht
  split at h
  ·rename_i hn
   obtain ⟨hn,hlow⟩:=and2 hn
   simp only [Option.some.injEq,Prod.mk.injEq] at h
   obtain ⟨rfl,rfl,rfl⟩:=h
   exact ⟨ht,fun q hq=>Nat.le_of_ble_eq_true (List.all_eq_true.1 hlow q hq),fun q hq=>sure_of (List.all_eq_true.1 (and2 hn).1 q hq)⟩
  ·cases h
 ·cases h
theorem sound_same {c:Code} {e:Nat} {s':St} (hsm:Same s s') (h:∀ a w Q,Q (exitOf e) a w→c.wp P Q a w):Sound P N c s ⟨.tt,[(e,.tt,s')]⟩ where
 grows:=fun k g s2 hk=>by
  rw [look_cons] at hk
  split at hk
  ·simp only [Option.some.injEq,Prod.mk.injEq] at hk
   obtain ⟨_,rfl⟩:=hk
   exact ⟨hsm.grows,by rw [hsm.nx]; exact Nat.le_refl _⟩
  ·cases hk
 runs:=fun _ loc β H S a w Wr own0 n0 Q hb hs hQ=>h a w Q (hQ e .tt s' (by rw [look_cons,if_pos rfl]) rfl (fun j hj=>by
  unfold Out.at
  rw [look_cons,if_neg (fun h=>hj h.symm)]
  rfl) β H S loc a w (hsm.sr hs) (Gone.refl _ _ _ _ _ _ _) (fun q hq hl=>by
   rw [hsm.roots q] at hl ⊢; exact Fol.refl _ _ _ q hq hl) (by rw [hsm.nx]; exact hsm.below hb))
theorem drawOps_runs {K:List Fun} {nx:Nat} :∀ (l:List Oper) (j:Nat) (T0:List DEnt) (g g':G) (s s':St) (T:List DEnt),T0.length=j→drawOps P K ops nx j l (g,s)=some (g',s',T)→g'.val=true→Below s (nx+stride*j)→
  g.val=true∧Runs P K ops (T0++T) (List.range' j l.length) s s'∧T.length=l.length∧(∀ (i:Nat) x,T[i]? =some x→l[i]? =some x.o∧x.fr=nx+stride*(j+i))∧Below s' (nx+stride*(j+l.length))∧Grows s s'
 | [],j,T0,g,g',s,s',T,hT0,h,hg,hb=>by
  simp only [drawOps,Option.some.injEq,Prod.mk.injEq] at h
  obtain ⟨rfl,rfl,rfl⟩:=h
  exact ⟨hg,Eqv.refl _,rfl,fun i x hx=>by simp at hx,hb,Grows.refl _⟩
 | o::l,j,T0,g,g',s,s',T,hT0,h,hg,hb=>by
  unfold drawOps at h
  split at h
  ·rename_i γ k y R hγ hth
   have ht:=thinOf_some hth
   generalize hst:stepSt s γ o.dst ⟨k,y,[]⟩=z at h
   obtain ⟨g1,s1⟩:=z
   simp only at h
   split at h
   ·rename_i hn
    obtain ⟨T',hT',rfl⟩:=moreD_some h
    obtain ⟨new,e1,e2⟩:=stepSt_hp (s:=s) γ o.dst ⟨k,y,[]⟩
    have hb1:Below s1 (nx+stride*(j+1)):=by
     refine below_news (k:=0) (dst:=o.dst) hb (Nat.add_le_add_left (Nat.mul_le_mul_left _ (Nat.le_succ _)) _) (fun t ht=> ?_) (new:=new) ?_ e2 hn
     ·have:=stepSt_slot (s:=s) γ o.dst ⟨k,y,[]⟩ t ht
      rw [hst] at this; exact this
     ·rw [hst] at e1; exact e1
    obtain ⟨k1,k2,k3,k4,k5,k6⟩:=drawOps_runs l (j+1) (T0++ [⟨o,nx+stride*j,o.looksAt ops,thinF o s,[],R,[]⟩]) _ g' s1 s' T' (by simp [hT0]) hT' hg hb1
    rw [G.and_val] at k1
    obtain ⟨hg0,hg1⟩:=and2 k1
    refine ⟨hg0,⟨⟨o,nx+stride*j,o.looksAt ops,thinF o s,[],R,[]⟩,s1,?_,⟨γ,⟨k,y,[]⟩,rfl,.inl ⟨rfl,rfl,ht.1,ht.2⟩,rfl,by rw [guard_view]; exact hγ,?_,?_⟩,?_⟩,by simp [k3],fun i x hx=> ?_,?_,?_⟩
    ·rw [← hT0]; simp
    ·rw [hst]; exact hg1
    ·rw [hst]; exact Eqv.refl _
    ·simpa [List.append_assoc] using k2
    ·cases i with
     | zero=>
      simp at hx
      subst hx
      exact ⟨rfl,rfl⟩
     | succ i=>
      obtain ⟨m1,m2⟩:=k4 i x (by simpa using hx)
      exact ⟨by simpa using m1,by rw [m2]; congr 2; omega⟩
    ·rw [List.length_cons,show j+(l.length+1)=j+1+l.length by omega]; exact k5
    ·have h1:∃ x,(stepSt s γ o.dst ⟨k,y,[]⟩).2=(addUp s γ []).put o.dst x:=by cases γ<;>exact ⟨_,rfl⟩
     obtain ⟨x,h1⟩:=h1
     rw [hst] at h1
     simp only at h1
     rw [h1] at k6
     exact ((addUp_grows γ s []).trans (Grows.put _ _ _)).trans k6
   ·cases h
  generalize footOf s (o.looksAt ops)=F' at h
  dsimp only at h
  ·split at h
   ·rename_i γ r hγ hr
    split at h
    ·rename_i hc
     obtain ⟨hc1,hc2⟩:=and2 hc
     generalize hst:stepSt s γ o.dst r=z at h
     obtain ⟨g1,s1⟩:=z
     simp only at h
     split at h
     ·rename_i hn
      obtain ⟨T',hT',rfl⟩:=moreD_some h
      obtain ⟨new,e1,e2⟩:=stepSt_hp (s:=s) γ o.dst r
      have hb1:Below s1 (nx+stride*(j+1)):=by
       refine below_news (k:=r.up.length) (dst:=o.dst) hb (Nat.add_le_add_left (Nat.mul_le_mul_left _ (Nat.le_succ _)) _) (fun t ht=> ?_) (new:=new) ?_ e2 hn
       ·have:=stepSt_slot (s:=s) γ o.dst r t ht
        rw [hst] at this; exact this
       ·rw [hst] at e1; exact e1
      obtain ⟨k1,k2,k3,k4,k5,k6⟩:=drawOps_runs l (j+1) (T0++ [⟨o,nx+stride*j,o.looksAt ops,F',r.up.map (·.1),[],(r.up.map (·.1)).filter fun q=>memB F' q && (sureB (s.root q) && sureB (s1.root q))⟩]) _ g' s1 s' T' (by simp [hT0]) hT' hg hb1
      rw [G.and_val] at k1
      obtain ⟨hg0,hg1⟩:=and2 k1
      refine ⟨hg0,⟨⟨o,nx+stride*j,o.looksAt ops,F',r.up.map (·.1),[],(r.up.map (·.1)).filter fun q=>memB F' q && (sureB (s.root q) && sureB (s1.root q))⟩,s1,?_,⟨γ,r,rfl,.inr ⟨rfl,fun t ht p hp=>memB_iff.1 (List.all_eq_true.1 (List.all_eq_true.1 hc1 t ht) p hp),drawn_of hc2,hr,fun q hq=> ?_⟩,rfl,hγ,?_,?_⟩,?_⟩,by simp [k3],fun i x hx=> ?_,?_,?_⟩
      ·rw [← hT0]; simp
      ·obtain ⟨m1,m2⟩:=and2 (List.mem_filter.1 hq).2
       obtain ⟨m2,m3⟩:=and2 m2
       exact ⟨memB_iff.1 m1,sure_of m2,sure_of m3⟩
      ·rw [hst]; exact hg1
      ·rw [hst]; exact Eqv.refl _
      ·simpa [List.append_assoc] using k2
      ·cases i with
       | zero=>
        simp at hx
        subst hx
        exact ⟨rfl,rfl⟩
       | succ i=>
        obtain ⟨m1,m2⟩:=k4 i x (by simpa using hx)
        exact ⟨by simpa using m1,by rw [m2]; congr 2; omega⟩
      ·rw [List.length_cons,show j+(l.length+1)=j+1+l.length by omega]; exact k5
      ·have h1:∃ x,(stepSt s γ o.dst r).2=(addUp s γ r.up).put o.dst x:=by cases γ<;>exact ⟨_,rfl⟩
       obtain ⟨x,h1⟩:=h1
       rw [hst] at h1
       simp only at h1
       rw [h1] at k6
       exact ((addUp_grows γ s r.up).trans (Grows.put _ _ _)).trans k6
     ·cases h
    ·cases h
   ·cases h
theorem evo_drawn:Evo Wr S w {w with drawn:=w.drawn+1} :=
 ⟨rfl,rfl,rfl,Nat.le_refl _,fun _ _ _=>rfl,fun _ _ _=>rfl,fun _ arr _ fr h=>⟨arr,fr,h,rfl⟩⟩
theorem hrel_drawn (h:HRel β H S w Wr):HRel β H S {w with drawn:=w.drawn+1} Wr:=h.of_heap rfl rfl rfl rfl
theorem SR.drawn (h:SR N s loc β H S a w Wr own0 n0):SR N s loc β H S a {w with drawn:=w.drawn+1} Wr own0 n0:=
 ⟨fun t=>RelD.step (Ext.refl _ _ _) (evo_drawn (Wr:=Wr)) _ _ (h.slots t),⟨hrel_drawn h.heap.heap,h.heap.at_,h.heap.inj,h.heap.own,h.heap.len,h.heap.fresh⟩,h.defers,h.size⟩
theorem gone_drawn:Gone Wr own0 n0 β H S w β H S {w with drawn:=w.drawn+1} :=⟨Ext.refl _ _ _,evo_drawn,fun _ _ h=>.inl h,fun _ _ _=>rfl⟩
theorem sound_draw {K:List Fun} {id:Nat} (hK:OpersOk P K) (hd:∀ o∈ops.toList,∀ t,o.dst=some t→t<N) (hmx:P.follows .mixedOrders=true) {g:G} {s1:St} {T:List DEnt} (h:drawOps P K ops s.nx 0 ops.toList (.tt,s)=some (g,s1,T)) (hok:drawOk ops T=true):
  Sound P N (.region id ops true) s ⟨g,[(exN,.tt, {s1 with nx:=s.nx+stride*ops.size})]⟩ where
 grows:=fun k g' s' hk=>by
  rw [look_cons] at hk
  split at hk
  ·simp only [Option.some.injEq,Prod.mk.injEq] at hk
   obtain ⟨_,rfl⟩:=hk
   have hg:∀ (l:List Oper) (j:Nat) (g g':G) (s s':St) (T:List DEnt),drawOps P K ops s.nx j l (g,s)=some (g',s',T)→True:=fun _ _ _ _ _ _ _ _=>trivial
   have hgr:∀ (l:List Oper) (nx j:Nat) (g g':G) (s s':St) (T:List DEnt),drawOps P K ops nx j l (g,s)=some (g',s',T)→Grows s s':=by
    intro l
    induction l with
    | nil=>
     intro nx j g g' s s' T h
     simp only [drawOps,Option.some.injEq,Prod.mk.injEq] at h
     obtain ⟨_,rfl,_⟩:=h
     exact Grows.refl _
    | cons o l ih=>
     intro nx j g g' s s' T h
     unfold drawOps at h
     split at h
     ·rename_i γ k y R hγ hth
      generalize hst:stepSt s γ o.dst ⟨k,y,[]⟩=z at h
      obtain ⟨g1,s1⟩:=z
      simp only at h
      split at h
      ·obtain ⟨T',hT',_⟩:=moreD_some h
       have k6:=ih _ _ _ _ _ _ _ hT'
       have h1:∃ x,(stepSt s γ o.dst ⟨k,y,[]⟩).2=(addUp s γ []).put o.dst x:=by cases γ<;>exact ⟨_,rfl⟩
       obtain ⟨x,h1⟩:=h1
       rw [hst] at h1
       simp only at h1
       rw [h1] at k6
       exact ((addUp_grows γ s []).trans (Grows.put _ _ _)).trans k6
      ·cases h
     generalize footOf s (o.looksAt ops)=F at h
     dsimp only at h
     split at h
     ·rename_i γ r hγ hr
      split at h
      ·generalize hst:stepSt s γ o.dst r=z at h
       obtain ⟨g1,s1⟩:=z
       simp only at h
       split at h
       ·obtain ⟨T',hT',_⟩:=moreD_some h
        have k6:=ih _ _ _ _ _ _ _ hT'
        have h1:∃ x,(stepSt s γ o.dst r).2=(addUp s γ r.up).put o.dst x:=by cases γ<;>exact ⟨_,rfl⟩
        obtain ⟨x,h1⟩:=h1
        rw [hst] at h1
        simp only at h1
        rw [h1] at k6
        exact ((addUp_grows γ s r.up).trans (Grows.put _ _ _)).trans k6
       ·cases h
      ·cases h
     ·cases h
   have:=hgr _ _ _ _ _ _ _ _ h
   exact ⟨⟨this.1,this.2⟩,Nat.le_add_right _ _⟩
  ·cases hk
 runs:=fun hgv loc β H S a w Wr own0 n0 Q hb hs hQ=>by
  obtain ⟨r1,r2,r3,r4,r5,_⟩:=drawOps_runs ops.toList 0 [] .tt g s s1 T rfl h hgv (by simpa using hb)
  unfold drawOk at hok
  simp only [List.all_eq_true,List.mem_range,Bool.and_eq_true] at hok
  have hcl:=closeB_reach (ops:=ops) ops.toList [] (fun j=>by simp) (fun j b hj=>by simp at hj)
  refine wp_region_any hmx (anyRuns (T:=T) (nx:=s.nx) (cl:=closeB ops.toList []) hK (fun i x hx=> ?_) hcl (fun j o ho k hk=> ?_) ops.size (List.range' 0 ops.size) _ s loc β H S a _ (by simp) (by simp) (fun i=> ?_) ?_ ?_ ?_ (by simpa using r2) hs.drawn (fun i _=> ?_) ?_)
  ·obtain ⟨m1,m2⟩:=r4 i x hx
   have m1':ops[i]? =some x.o:=by simpa using m1
   refine ⟨m1',by rw [m2,Nat.zero_add],fun t ht=>hd x.o ?_ t ht⟩
   exact List.mem_of_getElem? m1
  ·have:=(hok j (Array.getElem?_eq_some_iff.1 ho).1).1
   rw [ho] at this
   simp only [List.all_eq_true] at this
   exact Nat.le_of_ble_eq_true (this k hk)
  ·rw [List.mem_range'_1]
   constructor
   ·intro hi
    have hlt:i<(Array.replicate ops.size false).size:=by simp; omega
    exact ⟨by omega,by rw [Array.getD_eq_getD_getElem?,Array.getElem?_eq_getElem hlt]; simp⟩
   ·intro hi
    omega
  ·exact List.pairwise_lt_range'
  ·rw [List.pairwise_iff_getElem]
   intro i j hi hj hij
   simp only [List.length_range'] at hi hj
   simp only [List.getElem_range',Nat.zero_add,Nat.one_mul]
   exact (hok j hj).2 i hij
  ·intro j o ho hlj
   exfalso
   have hlt:j<(Array.replicate ops.size false).size:=by simpa using (Array.getElem?_eq_some_iff.1 ho).1
   rw [Array.getD_eq_getD_getElem?,Array.getElem?_eq_getElem hlt] at hlj
   simp at hlj
  ·exact (hb _).sub (by omega) (Nat.le_refl _)
  ·intro β' H' S' loc' a' w' hs' hg' hf'
   have hroot:∀ q,(({s1 with nx:=s.nx+stride*ops.size} :St).root q).like (s1.root q):=fun q=>HE.like.rfl _
   refine hQ exN .tt _ (by rw [look_cons,if_pos rfl]) rfl (fun j hj=>by
    unfold Out.at
    rw [look_cons,if_neg (fun h=>hj h.symm)]
    rfl) β' H' S' loc' a' w' ⟨fun t=>by rw [encD_congr hroot]; exact hs'.slots t,Heap.congr hroot hs'.heap,hs'.defers,hs'.size⟩ (gone_drawn.trans hg') (fun q hq hl=>hf' q hq hl) (fun hi=> ?_)
   have:=r5 hi
   rw [Nat.zero_add,Array.length_toList] at this
   exact ⟨this.slots,this.roots,this.vars⟩
theorem sound_loop {b:Code} {B:St→Out} {tag:Nat} {dead:List Nat} {lh:LH} (hB:∀ sx,Sound P N b sx (B sx)) (s0:St):Sound P N (.loop b) s0 (evLoop tag B s0 dead lh):=by
 unfold evLoop
 have hA:=fun loc β H S act w Wr own0 n0 (hb:Below s0 s0.nx) (hs:SR N s0 loc β H S act w Wr own0 n0)=>adaptSlots_sound (b:=lh.tgt) lh.tv (n:=s0.nx) hs hb
 obtain ⟨g1,gn1,_⟩:=adaptSlots_grows lh.tgt lh.tv s0 s0.nx
 generalize adaptSlots lh.tgt lh.tv s0 s0.nx=z1 at hA g1 gn1 ⊢
 obtain ⟨a1,n1⟩:=z1
 unfold evLoopA
 simp only at hA g1 gn1 ⊢
 have hA2:=fun loc β H S act w Wr own0 n0 (hb:Below a1 n1) (hs:SR N a1 loc β H S act w Wr own0 n0)=>adaptRoots_sound (b:=lh.tgt) lh.tr (n:=n1) hs hb
 obtain ⟨g2,gn2,_⟩:=adaptRoots_grows lh.tgt lh.tr a1 n1
 generalize adaptRoots lh.tgt lh.tr a1 n1=z2 at hA2 g2 gn2 ⊢
 obtain ⟨a2,n2⟩:=z2
 unfold evLoopB
 simp only at hA2 g2 gn2 ⊢
 have hg0:Grows s0 {a2 with nx:=n2} :=by
  have:=g1.trans g2
  exact ⟨this.1,this.2⟩
 have hn0:s0.nx≤({a2 with nx:=n2} :St).nx:=Nat.le_trans gn1 gn2
 have hsr:∀ loc β H S act w Wr own0 n0,Below s0 s0.nx→SR N s0 loc β H S act w Wr own0 n0→∃ loc1 β1 H1 S1,SR N {a2 with nx:=n2} loc1 β1 H1 S1 act w Wr own0 n0∧Gone Wr own0 n0 β H S w β1 H1 S1 w∧Fol s0 loc {a2 with nx:=n2} loc1 s0.nx∧Below {a2 with nx:=n2} ({a2 with nx:=n2} :St).nx:=by
  intro loc β H S act w Wr own0 n0 hb hs
  obtain ⟨_,l1,β1,H1,S1,p1,p2,p3,p4⟩:=hA loc β H S act w Wr own0 n0 hb hs
  obtain ⟨_,l2,β2,H2,S2,q1,q2,q3,q4⟩:=hA2 l1 β1 H1 S1 act w Wr own0 n0 p4 p1
  have hroot:∀ q,(({a2 with nx:=n2} :St).root q).like (a2.root q):=fun q=>HE.like.rfl _
  refine ⟨l2,β2,H2,S2,⟨fun t=>by rw [encD_congr hroot]; exact q1.slots t,Heap.congr hroot q1.heap,q1.defers,q1.size⟩,p2.trans q2,fun q hq hl=>(p3.trans q3 gn1) q hq hl,fun hi=> ?_⟩
  exact ⟨(q4 hi).slots,(q4 hi).roots,(q4 hi).vars⟩
 clear hA hA2
 generalize ({a2 with nx:=n2} :St)=s at hg0 hn0 hsr ⊢
 unfold loopFrom
 generalize headPs s lh=ps
 unfold loopBy
 split
 ·rename_i hc
  obtain ⟨hc1,hc2⟩:=and2 hc
  unfold loopAt
  cases hbind:bindTo s ps ((headBy s lh ps).ts.map (·.2)) (lh.vs.map fun v=>s.slot v) (headBy s lh ps).rs with
  | none=>exact sound_bad
  | some x=>
   obtain ⟨g,lv⟩:=x
   simp only
   cases hh:headSt s dead (headBy s lh ps) lv with
   | none=>exact sound_bad
   | some sx=>
    cases hx:HL.of (headBy s lh ps).tys lv with
    | none=>exact sound_bad
    | some x0=>
     simp only
     have hleaf:=HL.of_leaves _ _ _ hx
     have hkeys:(headBy s lh ps).rs.map (·.1)=ps.map (·.1):=by unfold headBy; simp only; rw [List.map_map]; rfl
     have hstay:∀ k∈lh.rs,k<s.nx∧(k,k)∈ps:=fun k hk=>by
      obtain ⟨h1,h2⟩:=and2 (List.all_eq_true.1 hc2 k hk)
      obtain ⟨⟨p1,p2⟩,h3,h4⟩:=List.any_eq_true.1 h2
      obtain ⟨h5,h6⟩:=and2 h4
      have h5:=beq2 h5
      have h6:=beq2 h6
      simp only at h5 h6
      subst h5; subst h6
      exact ⟨Nat.le_of_ble_eq_true h1,h3⟩
     have hkey:∀ k∈(headBy s lh ps).rs.map (·.1),k∈lh.rs∨s.nx≤k:=fun k hk=>by
      rw [hkeys] at hk
      have:=List.all_eq_true.1 hc1 k hk
      rw [Bool.or_eq_true] at this
      rcases this with h1 | h1
      ·exact .inr (Nat.le_of_ble_eq_true h1)
      ·exact .inl (memB_iff.1 h1)
     have ho:Below s s.nx→HeadOk s lh.rs (headBy s lh ps):=fun hbel=>⟨hbel,Nat.le_add_right _ _,hkey⟩
     refine loop_outs hB ho (by rw [hleaf]; exact hh) hg0 hn0 fun hgv loc β H S act w Wr own0 n0 hb hs=> ?_
     obtain ⟨l1,β1,H1,S1,p1,p2,p3,hbel⟩:=hsr loc β H S act w Wr own0 n0 hb hs
     obtain ⟨hon,_,hkk,_⟩:=bind_some hbind hgv
     have hpp:∀ p,p<s.nx→p∈ps.map (·.1)→(p,p)∈ps:=fun p hp hk=>by
      rcases hkey p (by rw [hkeys]; exact hk) with h1 | h1
      ·exact (hstay p h1).2
      ·omega
     have hbind':bindTo s ps ((headBy s lh ps).ts.map (·.2)) ((headBy s lh ps).ts.map fun x=>s.slot x.1) (headBy s lh ps).rs=some (g,lv):=by
      rw [← hbind]
      congr 1
      unfold headBy
      simp only
      rw [List.map_map]; rfl
     have hout:∀ q,q ∉ (headBy s lh ps).rs.map (·.1)→q ∉ (headBy s lh ps).old→q ∉ ps.map (·.2):=fun q hq1 hq2 hr=>by
      by_cases hst:q∈lh.rs
      ·exact hq1 (by rw [hkeys]; exact List.mem_map.2 ⟨_,(hstay q hst).2,rfl⟩)
      ·refine hq2 ?_
       unfold headBy
       simp only
       rw [List.mem_filter]
       refine ⟨hr,?_⟩
       cases hm:memB lh.rs q
       ·rfl
       ·exact absurd (memB_iff.1 hm) hst
     obtain ⟨M,k1,k2,k3⟩:=head_over (s:=s) (dead:=dead) hbind' hgv (fun q hq1 hq2 hl=>⟨rfl,hout q hq1 hq2,fun p hp=>hpp p (hbel.varN hp)⟩) (fun t _ _=>⟨rfl,fun p hp=>hpp p (hbel.slotN hp)⟩)
     rw [hh] at k1
     injection k1 with k1
     subst k1
     obtain ⟨H3,m1,m2⟩:=k2.sr p1 k3
     exact ⟨l1,β1,H1,S1,_,β1,H3,S1,p2,p3,m1,m2,k2.fol (n:=s.nx) hpp,hbel⟩
 ·exact sound_bad
theorem ev_sound {K:List Fun} (hK:OpersOk P K):∀ (c:Code) (Hs:List LH) (i:Nat) (s:St),(∀ t∈wrs c,t<N)→Sound P N c s (ev P K Hs i c s)
 | .skip,Hs,i,s,_=>sound_one fun a w Q h=>wp_skip h
 | .label _,Hs,i,s,_=>sound_one fun a w Q h=>wp_label h
 | .region id ops dr,Hs,i,s,hd=>by
  unfold ev
  have hd2:∀ o∈ops.toList,∀ t,o.dst=some t→t<N:=fun o ho t ht=>hd t (List.mem_filterMap.2 ⟨o,ho,ht⟩)
  clear hd
  refine sound_splits (fun s1=> ?_) _ s
  cases dr with
  | true=>
   simp only [evReg]
   split
   ·rename_i g s' T h
    split
    ·rename_i hc
     exact sound_draw hK hd2 (and2 hc).1 h (and2 hc).2
    ·exact sound_bad
   ·exact sound_bad
  | false=>
   simp only [evReg]
   split
   ·rename_i g s' h
    exact sound_region hK hd2 h
   ·exact sound_bad
 | .seq a b,Hs,i,s,hd=>by
  unfold ev
  exact sound_seq (B:=fun s1=>ev P K Hs (i+nloops a) b s1) (ev_sound hK a Hs i s fun t ht=>hd t (List.mem_append_left _ ht)) (fun g s1 _=>ev_sound hK b Hs _ s1 fun t ht=>hd t (List.mem_append_right _ ht))
 | .cond c a b,Hs,i,s,hd=>by
  unfold ev
  split
  ·rename_i g v hc
   exact sound_cond (ev_sound hK a Hs i s fun t ht=>hd t (List.mem_append_left _ ht)) (ev_sound hK b Hs (i+nloops a) s fun t ht=>hd t (List.mem_append_right _ ht)) hc
  ·exact sound_bad
 | .block id b,Hs,i,s,hd=>by
  have h:=sound_block (id:=id) (ev_sound hK b Hs i s hd)
  unfold blockOut at h
  unfold ev
  generalize ev P K Hs i b s=o at h ⊢
  obtain ⟨ok,ex⟩:=o
  simp only at h ⊢
  cases hX:look ex (exX id) with
  | none=>rw [hX] at h; exact h
  | some y=>
   obtain ⟨g,t⟩:=y
   rw [hX] at h
   simp only at h ⊢
   cases hN:look ex exN with
   | none=>rw [hN] at h; exact h
   | some x=>rw [hN] at h; exact h
 | .loop b,Hs,i,s,hd=>by
  unfold ev
  exact sound_loop (fun sx=>ev_sound hK b (noRet Hs) (i+1) sx hd) s
 | .exit id,Hs,i,s,_=>sound_one fun a w Q h=>wp_exit h
 | .ret,Hs,i,s,_=>sound_same (drops_same _ _) fun a w Q h=>wp_ret h
 | .goto _,Hs,i,s,_=>sound_bad
 | .scope _,Hs,i,s,_=>sound_bad
 | .rangeFunc ..,Hs,i,s,_=>sound_bad
 | .refuse _,Hs,i,s,_=>sound_bad
end
end Go.Tm

namespace Go.Tm
open Go.Vm
set_option linter.unusedVariables false
set_option linter.unusedSimpArgs false
theorem core_need (x:T):x.core=x.need.2:=by cases x<;>rfl
section
variable {N:Nat} {a b M s:St} {loc locM:Loc} {β β':Nat→Option (Nat × Nat)} {H H':List Ob} {S S':Nat→Nat→Prop} {act:Act} {w w':World} {Wr:Nat→Prop} {own0:Nat→Prop} {n0 m:Nat} {P:Program}
theorem adaptTs_pos:∀ (xs ys:List T) (n:Nat) (zs:List T) (fs:List Nat) (ts:List Ty),adaptTs a b xs ys n=some (zs,fs,ts)→(∀ t∈ts,0<t.size)∧zs.length=xs.length
 | [],[],n,zs,fs,ts,h=>by
  simp only [adaptTs,Option.some.injEq,Prod.mk.injEq] at h
  obtain ⟨rfl,rfl,rfl⟩:=h
  exact ⟨(fun t ht=>nomatch ht),rfl⟩
 | [],_::_,n,zs,fs,ts,h=>by cases h
 | _::_,[],n,zs,fs,ts,h=>by cases h
 | x::xs,y::ys,n,zs,fs,ts,h=>by
  unfold adaptTs at h
  split at h
  ·generalize hz:adaptT a b depth x.need.2 y n=r at h
   obtain ⟨z,f,t⟩:=r
   simp only at h
   split at h
   ·rename_i zs' fs' ts' h'
    simp only [Option.some.injEq,Prod.mk.injEq] at h
    obtain ⟨rfl,rfl,rfl⟩:=h
    obtain ⟨k1,k2⟩:=adaptTs_pos xs ys _ zs' fs' ts' h'
    refine ⟨fun t' ht=> ?_,by simp [k2]⟩
    rcases List.mem_append.1 ht with ht | ht
    ·exact adaptT_pos _ _ _ _ _ _ _ hz t' ht
    ·exact k1 t' ht
   ·cases h
  ·cases h
theorem adaptTs_sound (hM:Adapts a loc M locM β H S w Wr own0 n0 m):∀ (xs ys:List T) (n:Nat) (zs:List T) (fs:List Nat) (ts:List Ty),adaptTs a b xs ys n=some (zs,fs,ts)→(∀ x∈xs,∀ q∈x.names,q<m)→m≤n→
  (∀ i t,ts[i]? =some t→M.root (n+i)=⟨.tt,.arr t lNil false⟩)→(∀ r∈fs,∀ g t L fz,a.root r=⟨g,.arr t L fz⟩→g.val=true→Lent β H S (loc r).1)→
  ∀ (i:Nat) (x z:T),xs[i]? =some x→zs[i]? =some z→(∀ u,RelD β H S w (encD a loc x) u→RelD β H S w (encD M locM z) u)∧∀ q∈z.names,q<n+ts.length
 | [],[],n,zs,fs,ts,h,hn,hmn,hN,hF,i,x,z,hx,hz=>by simp at hx
 | [],_::_,n,zs,fs,ts,h,hn,hmn,hN,hF,i,x,z,hx,hz=>by cases h
 | _::_,[],n,zs,fs,ts,h,hn,hmn,hN,hF,i,x,z,hx,hz=>by cases h
 | x0::xs,y::ys,n,zs,fs,ts,h,hn,hmn,hN,hF,i,x,z,hx,hz=>by
  unfold adaptTs at h
  split at h
  ·rename_i hsol
   generalize hz0:adaptT a b depth x0.need.2 y n=r at h
   obtain ⟨z0,f,t⟩:=r
   simp only at h
   split at h
   ·rename_i zs' fs' ts' h'
    simp only [Option.some.injEq,Prod.mk.injEq] at h
    obtain ⟨rfl,rfl,rfl⟩:=h
    cases i with
    | zero=>
     simp only [List.getElem?_cons_zero,Option.some.injEq] at hx hz
     subst hx; subst hz
     have hcn:∀ q∈x0.need.2.names,q<m:=fun q hq=>hn x0 (.head _) q (need_names q hq)
     obtain ⟨k1,k2,k3,k4⟩:=adaptT_solid hM depth _ y n z0 f t hz0 hsol hcn (fun i t' hi=>hN i t' (by rw [List.getElem?_append_left (List.getElem?_eq_some_iff.1 hi).1]; exact hi)) (fun r hr=>hF r (List.mem_append_left _ hr))
     refine ⟨fun u hu=> ?_,fun q hq=> ?_⟩
     ·revert hu
      cases x0 with
      | may g x'=>
       simp only [T.again,encD]
       cases g with
       | true=>exact fun hu=>relD_conv hsol k1 k2 k3 k4 hu
       | false=>exact fun hu=>hu
      | _=>exact fun hu=>relD_conv hsol k1 k2 k3 k4 hu
     ·have hq':q∈z0.names:=by cases x0<;>exact hq
      have:=adaptT_names (m:=n+t.length) depth _ y n z0 f t hz0 (Nat.le_refl _) (fun q hq=>by have:=hcn q hq; omega) q hq'
      rw [List.length_append]; omega
    | succ i=>
     simp only [List.getElem?_cons_succ] at hx hz
     obtain ⟨k1,k2⟩:=adaptTs_sound hM xs ys (n+t.length) zs' fs' ts' h' (fun x hx=>hn x (.tail _ hx)) (by omega) (fun i t' hi=>by
      have:=hN (t.length+i) t' (by rw [List.getElem?_append_right (by omega),Nat.add_sub_cancel_left]; exact hi)
      rw [← Nat.add_assoc] at this; exact this) (fun r hr=>hF r (List.mem_append_right _ hr)) i x z hx hz
     exact ⟨k1,fun q hq=>by have:=k2 q hq; rw [List.length_append]; omega⟩
   ·cases h
  ·cases h
theorem resultT_sound (hs:SR N s loc β H S act w Wr own0 n0) {rv:ResultVar} {g:G} {x:T} (h:resultT P s rv=some (g,x)) (hg:g.val=true):
  ∃ u,(match rv with | ResultVar.tmp t=>pure (act.tmps.getD t undef) | .cell p t=>do loadVar t (← asAddr (act.tmps.getD p undef)):Sem Value).run P w=.ok u w∧RelD β H S w (encD s loc x) u∧∀ q∈x.names,∃ t,q∈(s.slot t).names∨∃ r,q∈(s.root r).rt.names:=by
 cases rv with
 | tmp t=>
  have h':(s.slot t).need=(g,x):=by
   unfold resultT at h
   simp only at h
   split at h
   ·cases h
   ·injection h
  have hu:=need_rel h' hg (hs.slots t)
  exact ⟨act.tmps.getD t undef,rfl,hu,fun q hq=>⟨t,.inl (need_names q (by rw [h']; exact hq))⟩⟩
 | cell t ty=>
  unfold resultT at h
  simp only at h
  split at h
  ·rename_i g1 r hx
   split at h
   ·rename_i g2 ty' y hr
    split at h
    ·rename_i hsz
     simp only [Option.some.injEq,Prod.mk.injEq] at h
     obtain ⟨rfl,rfl⟩:=h
     rw [G.and_val] at hg
     obtain ⟨hg1,hg2⟩:=and2 hg
     have hlive:(s.root r).live=true:=by rw [hr,live_iff]; exact ⟨hg2,rfl⟩
     have hp:=need_rel hx hg1 (hs.slots t)
     rw [encD_ptr hlive] at hp
     have hp:RelC β H S w (.ptr (loc r).1 (loc r).2 (poff [])) (act.tmps.getD t undef):=hp
     have ha:=hs.heap.at_ r (by rw [hr]; exact hg2)
     rw [hr] at ha
     obtain ⟨a1,a2,cs,a3,a4⟩:=ha
     simp only [RelC] at hp
     obtain ⟨_,hlt,hs2⟩:=hp
     obtain ⟨_,hs2⟩:=hs2 1 0 cs false a3
     obtain ⟨b,oo,hb,hu⟩:=hs2 a1
     obtain ⟨_,h'⟩:=hs.heap.heap.cells _ _ _ _ _ a3
     rcases h' with h' | ⟨b',o',arr,e,k1,k2,k3,k4,k5,k6⟩
     ·rw [h'.1] at hb; cases hb
     rw [hb] at k1
     simp only [Option.some.injEq,Prod.mk.injEq] at k1
     obtain ⟨rfl,rfl⟩:=k1
     have hl:Lies β H S w cs b oo:=k5
     obtain ⟨n,ht,hn,h1⟩:=sizeIs_at hsz
     have hlen:cs.length=n:=by rw [a4.length,encC_len s loc y a2,hn]
     obtain ⟨v,hv⟩:=wrapV_some (agg:=y.isRow) (cs:=cs) (by rcases h1 with h1 | h1; exact .inl h1; exact .inr (by rw [hlen,← hn,h1]))
     obtain ⟨u,e1,e2⟩:=run_loadVar_lies ht hl hlen hv
     refine ⟨u,?_,relD_cells (w:=w) a2 rfl h1 hv a4 e2,fun q hq=>⟨t,.inr ⟨r,by rw [hr]; exact hq⟩⟩⟩
     simp only
     rw [hu]
     simp [asAddr,poff,e1]
    ·cases h
   ·cases h
  ·cases h
theorem resultTs_sound (hs:SR N s loc β H S act w Wr own0 n0):∀ (rvs:List ResultVar) (g:G) (xs:List T),resultTs P s rvs=some (g,xs)→g.val=true→
  ∃ us,(rvs.mapM fun | ResultVar.tmp t=>pure (act.tmps.getD t undef) | .cell p t=>do loadVar t (← asAddr (act.tmps.getD p undef)):Sem (List Value)).run P w=.ok us w∧us.length=xs.length∧
   (∀ (i:Nat) x u,xs[i]? =some x→us[i]? =some u→RelD β H S w (encD s loc x) u)∧∀ x∈xs,∀ q∈x.names,∃ t,q∈(s.slot t).names∨∃ r,q∈(s.root r).rt.names
 | [],g,xs,h,hg=>by
  simp only [resultTs,Option.some.injEq,Prod.mk.injEq] at h
  obtain ⟨_,rfl⟩:=h
  exact ⟨[],rfl,rfl,fun i x u hx=>by simp at hx,fun x hx=>by cases hx⟩
 | r::rs,g,xs,h,hg=>by
  unfold resultTs at h
  split at h
  ·rename_i g1 x g2 xs1 h1 h2
   simp only [Option.some.injEq,Prod.mk.injEq] at h
   obtain ⟨rfl,rfl⟩:=h
   rw [G.and_val] at hg
   obtain ⟨hg1,hg2⟩:=and2 hg
   obtain ⟨u,e1,e2,e3⟩:=resultT_sound (P:=P) hs h1 hg1
   obtain ⟨us,f1,f2,f3,f4⟩:=resultTs_sound hs rs g2 xs1 h2 hg2
   refine ⟨u::us,?_,by simp [f2],fun i y v hy hv=> ?_,fun y hy=> ?_⟩
   ·rw [List.mapM_cons,Sem.run_bind]
    refine (congrArg (fun r=>Result.andThen r _) e1).trans ?_
    simp only [Result.andThen_ok]
    rw [Sem.run_bind]
    refine (congrArg (fun r=>Result.andThen r _) f1).trans ?_
    rfl
   ·cases i with
    | zero=>simp at hy hv; subst hy; subst hv; exact e2
    | succ i=>exact f3 i y v (by simpa using hy) (by simpa using hv)
   ·cases hy with
    | head=>exact e3
    | tail _ hy=>exact f4 y hy
  ·cases h
theorem run_results {fn:Func} {us:List Value} (g1:(fn.results.toList.mapM fun | ResultVar.tmp t=>pure (act.tmps.getD t undef) | .cell p t=>do loadVar t (← asAddr (act.tmps.getD p undef)):Sem (List Value)).run P w=.ok us w):
  (results fn act.tmps).run P w=.ok (if us.length=1 then us.headD undef else .tuple us.toArray) w:=by
 unfold results
 rw [Array.mapM_eq_mapM_toList]
 simp only [Sem.run_bind,Sem.run_map]
 refine (congrArg (fun r=>Result.andThen (Result.andThen r _) _) g1).trans ?_
 simp only [Result.andThen_ok,Sem.run_pure]
 congr 1
 match us with
 | []=>simp
 | [u]=>simp
 | u::v::us=>simp
theorem ofList_toList:∀ l:List T,(T.ofList l).toList=l
 | []=>rfl
 | x::l=>by simp only [T.ofList,T.toList,ofList_toList l]
theorem asRes_rel {xs:List T} {us:List Value} (hl:us.length=xs.length) (h:∀ (i:Nat) x u,xs[i]? =some x→us[i]? =some u→RelD β H S w (encD s loc x) u) (hok:∀ x∈xs,x.solid=true∧(x.isRow || Nat.beq x.size 1)=true):
  RelD β H S w (encD s loc (asRes xs)) (if us.length=1 then us.headD undef else .tuple us.toArray):=by
 have hv:∀ (xs:List T) (us:List Value),us.length=xs.length→(∀ (i:Nat) x u,xs[i]? =some x→us[i]? =some u→RelD β H S w (encD s loc x) u)→(∀ x∈xs,x.solid=true∧(x.isRow || Nat.beq x.size 1)=true)→RelVs β H S w (xs.map (encV s loc)) us:=by
  intro xs
  induction xs with
  | nil=>intro us hl _ _; have:=List.eq_nil_of_length_eq_zero hl; subst this; rfl
  | cons x xs ih=>
   intro us hl h hok
   match us,hl with
   | u::us,hl=>
    have hx:=h 0 x u rfl rfl
    rw [encD_v (hok x (.head _)).1 (hok x (.head _)).2] at hx
    exact ⟨u,us,rfl,hx,ih us (by simpa using hl) (fun i y v hy hv=>h (i+1) y v (by simpa using hy) (by simpa using hv)) (fun y hy=>hok y (.tail _ hy))⟩
 match xs,us,hl with
 | [x],[u],_=>exact h 0 x u rfl rfl
 | [],[],_=>exact ⟨#[],rfl,rfl⟩
 | x::y::xs,u::v::us,hl=>
  have:=hv (x::y::xs) (u::v::us) hl h hok
  rw [if_neg (by simp)]
  show RelD β H S w (.tup (((T.ofList (x::y::xs)).toList).map (encV s loc))) _
  rw [ofList_toList]
  exact ⟨_,rfl,by simpa using this⟩
end
end Go.Tm

namespace Go.Tm
open Go.Vm
set_option linter.unusedVariables false
set_option linter.unusedSimpArgs false
def endSt (e:Ent) (s0:St) (hs:List (Nat × Rt)):St:=⟨[],kept hs++e.ro.map (fun k=>(k,s0.root k)),0⟩
structure FunOk (P:Program) (F:Fun):Prop where
 call:∀ (vals:Array Value) (w:World),(callFunc F.e.f vals).run P w=.ok (.enter F.e.f vals) w
 runs:∀ (x:HL F.e.ins) (s0:St) (res:List T) (l1:List Leaf) (hs:List (Nat × Rt)),startSt F.e (HL.leaves F.e.ins x)=some s0→(F.fn x).1=true→
  plugTs F.e.aout (HL.leaves F.e.outs (F.fn x).2)=some (res,l1)→plugRs F.e.hout l1=some (hs,[])→
  entOk F.e=true∧∀ loc β H S w Wr own0 n0 (vals:Array Value),Heap s0 loc β H S w Wr own0 n0→vals.size=F.e.ain.length→(∀ t,t<F.e.ain.length→RelD β H S w (encD s0 loc (s0.slot t)) (vals.getD t undef))→
   Calls P F.e.f vals w fun e w'=>∃ v loc' β' H' S',e=.returned v∧Heap (endSt F.e s0 hs) loc' β' H' S' w' Wr own0 n0∧RelD β' H' S' w' (encD (endSt F.e s0 hs) loc' (asRes res)) v∧Gone Wr own0 n0 β H S w β' H' S' w'∧
    Fol s0 loc (endSt F.e s0 hs) loc' F.e.hin.length
section
variable {N:Nat} {a b M s:St} {loc locM:Loc} {β β':Nat→Option (Nat × Nat)} {H H':List Ob} {S S':Nat→Nat→Prop} {act:Act} {w w':World} {Wr:Nat→Prop} {own0:Nat→Prop} {n0 m:Nat} {P:Program}
theorem plugTs_length:∀ {xs ys:List T} {l l':List Leaf},plugTs xs l=some (ys,l')→ys.length=xs.length
 | [],ys,l,l',h=>by
  simp only [plugTs,Option.some.injEq,Prod.mk.injEq] at h
  rw [← h.1]
 | x::xs,ys,l,l',h=>by
  unfold plugTs at h
  split at h
  ·split at h
   ·rename_i ys' l2 hp
    simp only [Option.some.injEq,Prod.mk.injEq] at h
    obtain ⟨rfl,_⟩:=h
    simp [plugTs_length hp]
   ·cases h
  ·cases h
theorem range_zip_look:∀ (ts:List T) (k t:Nat),look ((List.range' k ts.length).zip ts) t=if k≤t then ts[t - k]? else none
 | [],k,t=>by simp [look]
 | x::ts,k,t=>by
  rw [List.length_cons,List.range'_succ,List.zip_cons_cons,look_cons,range_zip_look ts (k+1) t]
  by_cases h1:k=t
  ·subst h1; simp
  ·rw [if_neg h1]
   by_cases h2:k+1≤t
   ·rw [if_pos h2,if_pos (by omega),show t - k=(t - (k+1))+1 by omega]; rfl
   ·rw [if_neg h2,if_neg (by omega)]
theorem startSt_some {e:Ent} {l:List Leaf} {s0:St} (h:startSt e l=some s0):∃ ts l1 rs,plugTs e.ain l=some (ts,l1)∧plugRs e.hin l1=some (rs,[])∧s0.nx=e.hin.length∧(∀ t,s0.slot t=(ts[t]?).getD .undef)∧s0.hp=kept rs∧(∀ q,s0.root q=match look rs q with | some rt=>⟨.tt,rt⟩ | none=>⟨.ff,.gone⟩):=by
 unfold startSt at h
 split at h
 ·rename_i ts l1 hts
  split at h
  ·rename_i rs hrs
   injection h with h
   subst h
   refine ⟨ts,l1,rs,hts,hrs,rfl,fun t=> ?_,rfl,fun q=> ?_⟩
   ·show (look ((List.range ts.length).zip ts) t).getD .undef=_
    rw [List.range_eq_range',range_zip_look]
    simp
   ·show (look (kept rs) q).getD ⟨.ff,.gone⟩=_
    rw [look_kept]
    cases look rs q<;>rfl
  ·cases h
 ·cases h
theorem empty_below:Below ⟨[],[],0⟩ 0:=fun hi=>⟨(fun t r hr=>nomatch hr),(fun r h1 h2=>rfl),(fun r ty x hx=>nomatch hx)⟩
theorem start_below {s0:St} (h:newBelow ⟨[],[],0⟩ s0=true):Below s0 s0.nx:=below_check empty_below ⟨⟨s0.sl,by simp⟩,⟨s0.hp,by simp⟩⟩ (Nat.zero_le _) h
theorem end_sound {s0 s:St} {o:Out} {g:G} {c:Code} {live:List Nat} (hS:Sound P N c s0 o) (h:endOf live s0 o=some (g,s)) (hg:g.val=true) (hb:Below s0 s0.nx) (hs:SR N s0 loc β H S act w Wr own0 n0) {Q:Exit→Act→World→Prop}
  (hQ:∀ e,e=.normal∨e=.ret→∀ β' H' S' loc' a' w',SR N s loc' β' H' S' a' w' Wr own0 n0→Gone Wr own0 n0 β H S w β' H' S' w'→Fol s0 loc s loc' s0.nx→Grows s0 s→s0.nx≤s.nx→Below s s.nx→Q e a' w'):c.wp P Q act w:=by
 unfold endOf at h
 by_cases hall:(o.ex.all fun x=>Nat.beq x.1 exN || Nat.beq x.1 exR)=true
 ·rw [if_pos hall,if_pos hall] at h
  have hkey:∀ k x,look o.ex k=some x→k=exN∨k=exR:=fun k x hk=>by
   have:=List.all_eq_true.1 hall _ (look_mem _ _ _ hk)
   rw [Bool.or_eq_true] at this
   rcases this with h1 | h1
   ·exact .inl (beq2 h1)
   ·exact .inr (beq2 h1)
  have hexit:∀ k,k=exN∨k=exR→exitOf k=.normal∨exitOf k=.ret:=fun k hk=>by
   rcases hk with rfl | rfl
   ·exact .inl rfl
   ·exact .inr rfl
  cases hN:look o.ex exN with
  | none=>
   cases hR:look o.ex exR with
   | none=>rw [hN,hR] at h; cases h
   | some y=>
    rw [hN,hR] at h
    simp only [Option.some.injEq,Prod.mk.injEq] at h
    obtain ⟨rfl,rfl⟩:=h
    refine hS.runs hg loc β H S act w Wr own0 n0 Q hb hs fun k g' s' hk hgv ho β' H' S' loc' a' w' hs' hgo hf hbl=> ?_
    rcases hkey k _ hk with rfl | rfl
    ·rw [hN] at hk; cases hk
    ·rw [hR] at hk
     injection hk with hk
     subst hk
     exact hQ _ (.inr rfl) β' H' S' loc' a' w' hs' hgo hf (hS.grows _ _ _ hR).1 (hS.grows _ _ _ hR).2 hbl
  | some x=>
   cases hR:look o.ex exR with
   | none=>
    rw [hN,hR] at h
    simp only [Option.some.injEq,Prod.mk.injEq] at h
    obtain ⟨rfl,rfl⟩:=h
    refine hS.runs hg loc β H S act w Wr own0 n0 Q hb hs fun k g' s' hk hgv ho β' H' S' loc' a' w' hs' hgo hf hbl=> ?_
    rcases hkey k _ hk with rfl | rfl
    ·rw [hN] at hk
     injection hk with hk
     subst hk
     exact hQ _ (.inl rfl) β' H' S' loc' a' w' hs' hgo hf (hS.grows _ _ _ hN).1 (hS.grows _ _ _ hN).2 hbl
    ·rw [hR] at hk; cases hk
   | some y=>
    obtain ⟨gn,sn⟩:=x
    obtain ⟨gr,sr⟩:=y
    rw [hN,hR] at h
    simp only at h
    generalize deadAt live s0 sn sr=D at h
    unfold endChk at h
    split at h
    rotate_left
    ·cases h
    rename_i hchk
    obtain ⟨hchk1,hchk2⟩:=and2 hchk
    have hchk1:=Nat.le_of_ble_eq_true hchk1
    simp only [Option.some.injEq,Prod.mk.injEq] at h
    obtain ⟨rfl,rfl⟩:=h
    have hgn:=hS.grows _ _ _ hN
    have hgr:=hS.grows _ _ _ hR
    have dn:=drops_same D sn
    have dr:=drops_same D sr
    have hbm:=below_check hb (mergeSt_grows gn.val s0 (drops D sn) (drops D sr)) hchk1 hchk2
    have hfol:∀ {t:St} {l:Loc} {n:Nat},Fol s0 loc t l n→Fol s0 loc (drops D t) l n:=fun {t l n} hf q hq hl=>by
     rw [(drops_same D t).roots q] at hl ⊢; exact hf q hq hl
    refine hS.runs hg loc β H S act w Wr own0 n0 Q hb hs fun k g' s' hk hgv ho β' H' S' loc' a' w' hs' hgo hf hbl=> ?_
    rcases hkey k _ hk with rfl | rfl
    ·rw [hN] at hk
     simp only [Option.some.injEq,Prod.mk.injEq] at hk
     obtain ⟨rfl,rfl⟩:=hk
     obtain ⟨l2,β2,H2,S2,k1,k2,k3⟩:=merge_go (c:=gn.val) (a0:=drops D sn) (b0:=drops D sr) (X:=drops D sn) (by rw [hgv]; rfl) (hgn.1.trans dn.grows) (hgr.1.trans dr.grows) (dn.sr hs') (by rw [dn.nx]; exact dn.below hbl) hgo (hfol hf) (by rw [dn.nx]; exact hgn.2)
     exact hQ _ (.inl rfl) β2 H2 S2 l2 a' w' k1 k2 k3 (mergeSt_grows _ _ _ _) hchk1 hbm
    ·rw [hR] at hk
     simp only [Option.some.injEq,Prod.mk.injEq] at hk
     obtain ⟨rfl,rfl⟩:=hk
     have hnf:gn.val=false:=by rw [← at_some hN]; exact ho exN (by decide)
     obtain ⟨l2,β2,H2,S2,k1,k2,k3⟩:=merge_go (c:=gn.val) (a0:=drops D sn) (b0:=drops D sr) (X:=drops D sr) (by rw [hnf]; rfl) (hgn.1.trans dn.grows) (hgr.1.trans dr.grows) (dr.sr hs') (by rw [dr.nx]; exact dr.below hbl) hgo (hfol hf) (by rw [dr.nx]; exact hgr.2)
     exact hQ _ (.inr rfl) β2 H2 S2 l2 a' w' k1 k2 k3 (mergeSt_grows _ _ _ _) hchk1 hbm
 ·rw [if_neg hall,if_neg hall] at h; cases h
end
end Go.Tm

namespace Go.Tm
open Go.Vm
set_option linter.unusedVariables false
set_option linter.unusedSimpArgs false
theorem keyIn_iff {l:List (Nat × Rt)} {k:Nat} :keyIn l k=true↔k∈l.map (·.1):=by
 unfold keyIn
 rw [List.any_eq_true,List.mem_map]
 constructor
 ·rintro ⟨x,h1,h2⟩; exact ⟨x,h1,beq2 h2⟩
 ·rintro ⟨x,h1,rfl⟩; exact ⟨x,h1,Nat.beq_refl _⟩
theorem stays_mem {e:Ent} {k:Nat} (h1:k∈e.hin.map (·.1)) (h2:k∈e.hout.map (·.1)):(k,k)∈stays e:=by
 unfold stays
 obtain ⟨x,hx,rfl⟩:=List.mem_map.1 h1
 exact List.mem_map.2 ⟨x,List.mem_filter.2 ⟨hx,keyIn_iff.2 h2⟩,rfl⟩
structure Fin (e:Ent) (s0 M:St) (zs:List T) (ps:List (Nat × Nat)):Prop where
 vals:∀ z∈zs,okRes z=true
 starts:∀ q,∀ p∈(s0.root q).rt.names,p∈e.hin.map (·.1)
 ent:entOk e=true
 ro:∀ k∈e.ro,(∀ x∈fresh M.hp s0.hp.length,x.1≠k)∧k ∉ ps.map (·.2)∧k ∉ e.hout.map (·.1)
 outs:∀ k∈e.hout.map (·.1),e.hin.length≤k∨k∈e.hin.map (·.1)
 stay:∀ k,k∈e.hin.map (·.1)→k∈e.hout.map (·.1)→(k,k)∈ps
theorem finishPs_some {e:Ent} {s0 M:St} {zs:List T} {ps:List (Nat × Nat)} {g:G} {v:HL e.outs} (h:finishPs e s0 M zs ps=some (g,v)):Fin e s0 M zs ps∧∃ lv,bindTo M ps e.aout zs e.hout=some (g,lv)∧HL.of e.outs lv=some v:=by
 unfold finishPs at h
 split at h
 ·rename_i hc
  obtain ⟨c1,hc⟩:=and2 hc
  obtain ⟨c2,hc⟩:=and2 hc
  obtain ⟨c3,hc⟩:=and2 hc
  obtain ⟨c4,hc⟩:=and2 hc
  obtain ⟨c5,c6⟩:=and2 hc
  have hn:∀ (l:List Nat) (q:Nat),(!memB l q)=true→q ∉ l:=fun l q h hm=>by rw [memB_iff.2 hm] at h; cases h
  have hent:=c3
  unfold entOk at hent
  obtain ⟨e1,e2⟩:=and2 hent
  obtain ⟨e2,e3⟩:=and2 e2
  split at h
  ·rename_i g' lv hb
   split at h
   ·rename_i v' hv
    simp only [Option.some.injEq,Prod.mk.injEq] at h
    obtain ⟨rfl,rfl⟩:=h
    refine ⟨⟨fun z hz=>List.all_eq_true.1 c1 z hz,fun q p hp=> ?_,c3,fun k hk=>⟨fun x hx he=> ?_,fun hm=> ?_,fun hm=> ?_⟩,fun k hk=> ?_,fun k h1 h2=> ?_⟩,lv,hb,hv⟩
    ·unfold St.root at hp
     cases hl:look s0.hp q with
     | none=>rw [hl] at hp; cases hp
     | some x=>
      rw [hl] at hp
      exact keyIn_iff.1 (List.all_eq_true.1 (List.all_eq_true.1 c2 _ (look_mem _ _ _ hl)) p hp)
    ·exact hn _ _ (List.all_eq_true.1 c4 x hx) (he ▸ hk)
    ·exact hn _ _ (List.all_eq_true.1 c5 k hm) hk
    ·have:=(and2 (List.all_eq_true.1 e3 k hk)).1
     rw [keyIn_iff.2 hm] at this; cases this
    ·obtain ⟨x,hx,rfl⟩:=List.mem_map.1 hk
     have:=List.all_eq_true.1 e2 x hx
     rw [Bool.or_eq_true] at this
     rcases this with h1 | h1
     ·exact .inl (Nat.le_of_ble_eq_true h1)
     ·exact .inr (keyIn_iff.1 h1)
    ·have:=List.all_eq_true.1 c6 _ (stays_mem h1 h2)
     obtain ⟨⟨p1,p2⟩,h3,h4⟩:=List.any_eq_true.1 this
     obtain ⟨h5,h6⟩:=and2 h4
     have h5:=beq2 h5
     have h6:=beq2 h6
     simp only at h5 h6
     subst h5; subst h6
     exact h3
   ·cases h
  ·cases h
 ·cases h
theorem look_ro {l:List Nat} {s0:St} {q:Nat} :look (l.map fun k=>(k,s0.root k)) q=if q∈l then some (s0.root q) else none:=look_self (f:=fun k=>s0.root k)
theorem endSt_root (e:Ent) (s0:St) (hs:List (Nat × Rt)) (q:Nat):(endSt e s0 hs).root q=match look hs q with | some rt=>⟨.tt,rt⟩ | none=>if q∈e.ro then s0.root q else ⟨.ff,.gone⟩:=by
 show (look (kept hs++e.ro.map fun k=>(k,s0.root k)) q).getD ⟨.ff,.gone⟩=_
 rw [look_append,look_kept]
 cases look hs q with
 | some rt=>rfl
 | none=>
  simp only [Option.map_none]
  rw [look_ro]
  split<;>rfl
theorem fin_over {e:Ent} {s0 M:St} {zs:List T} {ps:List (Nat × Nat)} {g:G} {lv:List Leaf} (hf:Fin e s0 M zs ps) (hgr:Grows s0 M) (hb:bindTo M ps e.aout zs e.hout=some (g,lv)) (hg:g.val=true) {res:List T} {l1:List Leaf} {hs:List (Nat × Rt)}
  (h1:plugTs e.aout lv=some (res,l1)) (h2:plugRs e.hout l1=some (hs,[])):Over ps M (endSt e s0 hs)∧res=zs.map (fun x=>renT (renBy ps) x.need.2)∧(∀ z∈zs,z.need.1.val=true∧∀ q∈z.need.2.names,q∈ps.map (·.2))∧(∀ k,k∈e.hout.map (·.1)↔k∈ps.map (·.1)):=by
 obtain ⟨b1,b2,b3,b4,b5,l2,hr',k1,k2,k3,k4⟩:=bind_some hb hg
 rw [k1] at h1
 simp only [Option.some.injEq,Prod.mk.injEq] at h1
 obtain ⟨rfl,rfl⟩:=h1
 rw [k2] at h2
 simp only [Option.some.injEq,Prod.mk.injEq] at h2
 obtain ⟨rfl,_⟩:=h2
 refine ⟨⟨b1,fun k r hm hl=> ?_,fun q hq hl=> ?_⟩,rfl,b5,b3⟩
 ·rw [endSt_root]
  have hk:k∈hr'.map (·.1):=by rw [k3,b3]; exact List.mem_map.2 ⟨_,hm,rfl⟩
  obtain ⟨rt,hrt⟩:=look_keys.1 hk
  rw [hrt]
  obtain ⟨r',m1,m2,m3⟩:=k4 k rt hrt
  have:r'=r:=by rw [← b1.src m1,← b1.src hm]
  subst this
  exact ⟨m2,m3⟩
 ·rw [endSt_root] at hl ⊢
  have hn:look hr' q=none:=by
   cases hlk:look hr' q with
   | none=>rfl
   | some rt=>exact absurd (by rw [← b3,← k3]; exact look_key hlk) hq
  rw [hn] at hl ⊢
  simp only at hl ⊢
  by_cases hro:q∈e.ro
  ·rw [if_pos hro] at hl ⊢
   obtain ⟨r1,r2,r3⟩:=hf.ro q hro
   have hM:M.root q=s0.root q:=hgr.root r1
   refine ⟨hM.symm,r2,fun p hp hk=> ?_⟩
   rw [hM] at hp
   exact hf.stay p (hf.starts q p hp) ((b3 p).2 hk)
  ·rw [if_neg hro] at hl; cases hl
section
variable {N:Nat} {P:Program}
noncomputable def evFunB (P:Program) (B:St→Out) (fn:Func) (c:Code) (e:Ent) (x:HL e.ins):BoolD × HL e.outs:=
 match startSt e (HL.leaves e.ins x) with
 | some s0=>match (if (newBelow ⟨[],[],0⟩ s0 && (wrs c).all fun t=>Nat.blt t fn.ntmps)=true then endOf (resSlots fn) s0 (B s0) else none) with
  | some (g,s)=>match finish P fn e s0 s with
   | some (g',r)=>((G.and g g').val,r)
   | none=>(bLit false,HL.dflt e.outs)
  | none=>(bLit false,HL.dflt e.outs)
 | none=>(bLit false,HL.dflt e.outs)
theorem fun_okB {F:Fun} {fn:Func} {c:Code} {B:St→Out} (hB:∀ N s0,(∀ t∈wrs c,t<N)→Sound P N c s0 (B s0)) (hcall:∀ (vals:Array Value) (w:World),(callFunc F.e.f vals).run P w=.ok (.enter F.e.f vals) w) (hf:P.funcs[F.e.f]? =some fn) (hbody:fn.body=some c)
  (hF:∀ x,(F.fn x).1=true→F.fn x=evFunB P B fn c F.e x):FunOk P F where
 call:=hcall
 runs:=fun x s0 res l1 hs hst hok hres hhs=>by
  have he:=hF x hok
  unfold evFunB at he
  rw [hst] at he
  simp only at he
  split at he
  ·rename_i g s hend
   split at hend
   ·rename_i hchk
    obtain ⟨hchk1,hchk2⟩:=and2 hchk
    split at he
    ·rename_i g' r hfin
     have hgg:(G.and g g').val=true:=by rw [← hok,he]
     rw [G.and_val] at hgg
     obtain ⟨hg,hg'⟩:=and2 hgg
     unfold finish at hfin
     split at hfin
     ·rename_i gr xs hxs
      split at hfin
      ·rename_i zs fs ts hzs
       split at hfin
       ·rename_i g2 v hv
        simp only [Option.some.injEq,Prod.mk.injEq] at hfin
        obtain ⟨rfl,rfl⟩:=hfin
        rw [G.and_val] at hg'
        obtain ⟨hgr,hg2⟩:=and2 hg'
        have hbz:=adaptRoots_grows ⟨[],kept F.e.hout,0⟩ ((stays F.e).map (·.1)) (addNils (frzs s fs) s.nx ts) (s.nx+ts.length)
        have hbs:=fun {N:Nat} {loc:Loc} {β:Nat→Option (Nat × Nat)} {H:List Ob} {S:Nat→Nat→Prop} {act:Act} {w:World} {Wr:Nat→Prop} {own0:Nat→Prop} {n0:Nat} (hs:SR N (addNils (frzs s fs) s.nx ts) loc β H S act w Wr own0 n0) (hb:Below (addNils (frzs s fs) s.nx ts) (s.nx+ts.length))=>
         adaptRoots_sound (b:=⟨[],kept F.e.hout,0⟩) ((stays F.e).map (·.1)) hs hb
        generalize adaptRoots ⟨[],kept F.e.hout,0⟩ ((stays F.e).map (·.1)) (addNils (frzs s fs) s.nx ts) (s.nx+ts.length)=z at hv hbz hbs
        obtain ⟨M,nM⟩:=z
        unfold finishAt at hv
        simp only at hv hbz hbs
        generalize closePs F.e.hout M depth (nubP (stays F.e++(F.e.aout.zip zs).flatMap fun x=>x.1.zipNames x.2.need.2))=ps at hv
        obtain ⟨fin,lv,hbind,hlv⟩:=finishPs_some hv
        have hleaf:=HL.of_leaves _ _ _ hlv
        have hres':plugTs F.e.aout lv=some (res,l1):=by rw [← hleaf,← hres,he]
        refine ⟨fin.ent,fun loc β H S w Wr own0 n0 vals hheap hsz hslots=> ?_⟩
        obtain ⟨ts0,l0,rs0,t1,t2,t3,t4,t5,t6⟩:=startSt_some hst
        have hlen:=plugTs_length t1
        refine calls_of_wp hf hbody ?_
        have hsr:SR (vals++Array.replicate (fn.ntmps - vals.size) undef).size s0 loc β H S {tmps:=vals++Array.replicate (fn.ntmps - vals.size) undef,defers:= []} w Wr own0 n0:=by
         refine ⟨fun t=> ?_,hheap,rfl,rfl⟩
         by_cases ht:t<F.e.ain.length
         ·have:=hslots t ht
          have he:(vals++Array.replicate (fn.ntmps - vals.size) undef).getD t undef=vals.getD t undef:=by
           rw [Array.getD_eq_getD_getElem?,Array.getD_eq_getD_getElem?,Array.getElem?_append_left (by omega)]
          rw [he]; exact this
         ·have:s0.slot t=.undef:=by rw [t4,List.getElem?_eq_none (by omega)]; rfl
          rw [this]; trivial
        have hb0:=start_below hchk1
        have hN:∀ t∈wrs c,t<(vals++Array.replicate (fn.ntmps - vals.size) undef).size:=fun t ht=>by
         have:=Nat.le_of_ble_eq_true (List.all_eq_true.1 hchk2 t ht)
         rw [Array.size_append,Array.size_replicate]; omega
        refine end_sound (hB _ s0 hN) hend hg hb0 hsr fun e hee β' H' S' loc' a' w' hs' hgo hfol hgrow hnx hbl=> ?_
        obtain ⟨us,u1,u2,u3,u4⟩:=resultTs_sound (P:=P) hs' _ gr xs hxs hgr
        obtain ⟨hpos,hzlen⟩:=adaptTs_pos _ _ _ _ _ _ hzs
        obtain ⟨locM,βM,HM,SM,m1,m2,m3,m4⟩:=adapt_env hs'.heap hbl fs ts hpos
        have hxn:∀ x∈xs,∀ q∈x.names,q<s.nx:=fun x hx q hq=>by
         obtain ⟨t,h | ⟨r,h⟩⟩:=u4 x hx q hq
         ·exact hbl.slotN h
         ·exact hbl.varN h
        have hzrel:=adaptTs_sound m1 xs F.e.aout s.nx zs fs ts hzs hxn (Nat.le_refl _) (fun i t hi=>addNils_new ts _ s.nx i t hi) m4
        obtain ⟨hi1,hfo1⟩:=m1.fol.follow
        have hsr1:SR (vals++Array.replicate (fn.ntmps - vals.size) undef).size (addNils (frzs s fs) s.nx ts) locM βM HM SM a' w' Wr own0 n0:=
         ⟨fun t=>by
          have hslot:(addNils (frzs s fs) s.nx ts).slot t=s.slot t:=by rw [addNils_slot,frzs_eq,addUp_slot]
          rw [hslot]
          exact Gone.rel m2 hfo1 (fun q hq hk=>by have:=hbl.slotN hq; omega) (hs'.slots t),m1.heap,hs'.defers,hs'.size⟩
        obtain ⟨_,loc2,β2,H2,S2,p1,p2,p3,p4⟩:=hbs hsr1 m3
        have hgrM:Grows s0 M:=by
         have g1:Grows s (addNils (frzs s fs) s.nx ts):=(frzs_grows s fs).trans (addNils_grows ts _ s.nx)
         exact (hgrow.trans g1).trans hbz.1
        obtain ⟨o1,o2,o3,o4⟩:=fin_over fin hgrM hbind hg2 hres' hhs
        obtain ⟨H3,q1,q2⟩:=o1.heap p1.heap
        obtain ⟨hi2,hfo2⟩:=p3.follow
        have hval:RelD β2 H3 S2 w' (encD (endSt F.e s0 hs) (fun q=>loc2 (srcBy ps q)) (asRes res)) (if us.length=1 then us.headD undef else .tuple us.toArray):=by
         refine asRes_rel (by rw [o2,List.length_map,hzlen]; exact u2) (fun i y u hy hu=> ?_) (fun y hy=> ?_)
         ·rw [o2,List.getElem?_map] at hy
          cases hz:zs[i]? with
          | none=>rw [hz] at hy; cases hy
          | some z=>
           rw [hz] at hy
           simp only [Option.map_some,Option.some.injEq] at hy
           subst hy
           have hi:i<xs.length:=by rw [← hzlen]; exact (List.getElem?_eq_some_iff.1 hz).1
           obtain ⟨k1,k2⟩:=hzrel i xs[i] z (List.getElem?_eq_getElem hi) hz
           have hu0:=u3 i xs[i] u (List.getElem?_eq_getElem hi) hu
           have hu1:=k1 u (RelD.step m2.ext m2.evo _ _ hu0)
           have hu2:=Gone.rel p2 hfo2 (fun q hq hk=>by have:=k2 q hq; omega) hu1
           obtain ⟨z1,z2⟩:=o3 z (List.mem_of_getElem? hz)
           exact o1.value (.inl ⟨z1,rfl,z2⟩) q2 hu2
         ·rw [o2] at hy
          obtain ⟨z,hz,rfl⟩:=List.mem_map.1 hy
          obtain ⟨z1,z2⟩:=and2 (fin.vals z hz)
          obtain ⟨r1,r2,r3⟩:=renT_kind (renBy ps) z.need.2
          exact ⟨by rw [r1]; exact z1,by rw [r2,r3]; exact z2⟩
        have hfolE:Fol s0 loc (endSt F.e s0 hs) (fun q=>loc2 (srcBy ps q)) F.e.hin.length:=by
         have f1:Fol s0 loc (addNils (frzs s fs) s.nx ts) locM s0.nx:=hfol.trans m1.fol hnx
         have f2:Fol s0 loc M loc2 s0.nx:=f1.trans p3 (by omega)
         rw [← t3]
         refine f2.trans (o1.fol (n:=s0.nx) fun q hq hk=> ?_) (Nat.le_refl _)
         have hk':=(o4 q).2 hk
         rcases fin.outs q hk' with h1 | h1
         ·omega
         ·exact fin.stay q h1 hk'
        have hpost:∃ v,(results fn a'.tmps).run P w'=.ok v w'∧(∃ v_1 loc' β' H' S',Ending.returned v=.returned v_1∧Heap (endSt F.e s0 hs) loc' β' H' S' w' Wr own0 n0∧RelD β' H' S' w' (encD (endSt F.e s0 hs) loc' (asRes res)) v_1∧Gone Wr own0 n0 β H S w β' H' S' w'∧
          Fol s0 loc (endSt F.e s0 hs) loc' F.e.hin.length):=
         ⟨_,run_results u1,_,_,β2,H3,S2,rfl,q1,hval,((hgo.trans m2).trans p2).trans q2,hfolE⟩
        rcases hee with rfl | rfl
        ·exact ⟨hs'.defers,hpost⟩
        ·exact ⟨hs'.defers,hpost⟩
       ·cases hfin
      ·cases hfin
     ·cases hfin
    ·exfalso
     rw [he] at hok; cases hok
   ·cases hend
  ·exfalso
   rw [he] at hok; cases hok
theorem fun_ok {F:Fun} {fn:Func} {c:Code} {K:List Fun} {Hs:List LH} (hK:OpersOk P K) (hcall:∀ (vals:Array Value) (w:World),(callFunc F.e.f vals).run P w=.ok (.enter F.e.f vals) w) (hf:P.funcs[F.e.f]? =some fn) (hbody:fn.body=some c)
  (hF:∀ x,(F.fn x).1=true→F.fn x=evFun P K Hs fn c F.e x):FunOk P F:=
 fun_okB (B:=fun s=>ev P K Hs 0 c s) (fun N s0 hN=>ev_sound hK c _ 0 s0 hN) hcall hf hbody hF
end
end Go.Tm

namespace Go.Tm
open Go.Vm
set_option linter.unusedVariables false
set_option linter.unusedSimpArgs false
section
variable {ps:List (Nat × Nat)} {N:Nat} {a M s s0 s':St} {loc loc' locE:Loc} {β β':Nat→Option (Nat × Nat)} {H H':List Ob} {S S':Nat→Nat→Prop} {act:Act} {w w':World} {Wr:Nat→Prop} {own0 own1:Nat→Prop} {n0 n:Nat} {e:Ent}
theorem Over.heap_same (hh:Heap a loc β H S w Wr own0 n0) (h:Over ps a M) (hz:∀ k r,(k,r)∈ps→(M.root k).live=true→∀ t L fz,(M.root k).rt=.arr t L fz→(a.root r).rt=.arr t L fz):Heap M (fun q=>loc (srcBy ps q)) β H S w Wr own0 n0:=by
 obtain ⟨H',hm,_⟩:=h.heap hh
 refine ⟨hh.heap,fun q hg=> ?_,hm.inj,hm.own,hh.len,hh.fresh⟩
 by_cases hl:(M.root q).live=true
 ·by_cases hk:q∈ps.map (·.1)
  ·obtain ⟨r,hkr⟩:=mem_left hk
   obtain ⟨h1,h2⟩:=h.named q r hkr hl
   have ha:=hh.at_ r h1
   have hz:=hz q r hkr hl
   show match (M.root q).rt with
    | .var _ x=>(loc (srcBy ps q)).2=0∧x.solid=true∧∃ cs,H[(loc (srcBy ps q)).1]? =some (.cells 1 0 cs false)∧WkL cs (encC M (fun q=>loc (srcBy ps q)) x)
    | .arr t L fz=>(loc (srcBy ps q)).2≠0∧0<t.size∧∃ cs,H[(loc (srcBy ps q)).1]? =some (.cells t.size (loc (srcBy ps q)).2 cs fz)∧WkL cs (L.flatMap (enc t))
    | .map k v L=>(loc (srcBy ps q)).2=0∧k.flat=true∧(k.isRow || Nat.beq k.size 1)=true∧(v.isRow || Nat.beq v.size 1)=true∧H[(loc (srcBy ps q)).1]? =some (.map (L.map (entV k v)))
    | .gone=>True
   rw [h.once.src hkr]
   generalize hx:(a.root r).rt=x at h2 ha hz
   generalize hy:(M.root q).rt=y at h2 hz ⊢
   cases x<;>cases y<;>first | exact h2.elim | trivial | skip
   ·rename_i ty x ty' x'
    obtain ⟨e1,e2,e3,_⟩:=h2
    obtain ⟨a1,a2,cs,a3,a4⟩:=ha
    refine ⟨a1,e2,cs,a3,a4.trans ?_⟩
    rw [e1]
    exact encC_ren h.ren x e3
   ·rename_i t L fz t' L' fz'
    have:=hz t' L' fz' rfl
    rw [this] at ha
    exact ha
   ·have h2:Rt.map _ _ _=Rt.map _ _ _:=h2
    injection h2 with e1 e2 e3
    subst e1; subst e2
    have e3:=eq_of_heq e3
    subst e3
    exact ha
  ·obtain ⟨h1,_,h3⟩:=h.rest q hk hl
   have ha:=hh.at_ q (by rw [← h1]; exact hg)
   rw [h1]
   show match (a.root q).rt with
    | .var _ x=>(loc (srcBy ps q)).2=0∧x.solid=true∧∃ cs,H[(loc (srcBy ps q)).1]? =some (.cells 1 0 cs false)∧WkL cs (encC M (fun q=>loc (srcBy ps q)) x)
    | .arr t L fz=>(loc (srcBy ps q)).2≠0∧0<t.size∧∃ cs,H[(loc (srcBy ps q)).1]? =some (.cells t.size (loc (srcBy ps q)).2 cs fz)∧WkL cs (L.flatMap (enc t))
    | .map k v L=>(loc (srcBy ps q)).2=0∧k.flat=true∧(k.isRow || Nat.beq k.size 1)=true∧(v.isRow || Nat.beq v.size 1)=true∧H[(loc (srcBy ps q)).1]? =some (.map (L.map (entV k v)))
    | .gone=>True
   rw [src_none hk]
   generalize hx:(a.root q).rt=x at h3 ha
   cases x with
   | gone=>trivial
   | var ty x=>
    obtain ⟨a1,a2,cs,a3,a4⟩:=ha
    have:=encC_ren (loc:=loc) h.id x h3
    rw [renT_id] at this
    exact ⟨a1,a2,cs,a3,a4.trans this⟩
   | arr t L fz=>exact ha
   | map k v L=>exact ha
 ·have:(M.root q).rt=.gone:=by
   simp only [HE.live,hg,Bool.true_and,Bool.not_eq_true] at hl
   cases hrt:(M.root q).rt with
   | gone=>rfl
   | var _ _=>rw [hrt] at hl; cases hl
   | arr _ _ _=>rw [hrt] at hl; cases hl
   | map _ _ _=>rw [hrt] at hl; cases hl
  rw [this]; trivial
theorem renT_inv {f g:Nat→Nat} :∀ x:T,(∀ p∈x.names,g (f p)=p)→renT g (renT f x)=x
 | .pure t v,_=>rfl
 | .cst v,_=>rfl
 | .row x,h=>by simp only [renT]; rw [renT_inv x h]
 | .pair a b,h=>by simp only [renT]; rw [renT_inv a fun p hp=>h p (List.mem_append_left _ hp),renT_inv b fun p hp=>h p (List.mem_append_right _ hp)]
 | .own r sz,h=>by simp only [renT]; rw [h r (.head _)]
 | .sref r sz lo n,h=>by simp only [renT]; rw [h r (.head _)]
 | .ptr r p,h=>by simp only [renT]; rw [h r (.head _)]
 | .mref r,h=>by simp only [renT]; rw [h r (.head _)]
 | .loc t L p,_=>rfl
 | .fn f' x,h=>by simp only [renT]; rw [renT_inv x h]
 | .tup x,h=>by simp only [renT]; rw [renT_inv x h]
 | .may g' x,h=>by simp only [renT]; rw [renT_inv x h]
 | .undef,_=>rfl
theorem names_ren (f:Nat→Nat):∀ (x:T) (p:Nat),p∈(renT f x).names→∃ q∈x.names,f q=p
 | .pure t v,p,h=>by cases h
 | .cst v,p,h=>by cases h
 | .row x,p,h=>names_ren f x p h
 | .pair a b,p,h=>by
  rcases List.mem_append.1 (show p∈(renT f a).names++(renT f b).names from h) with h | h
  ·obtain ⟨q,h1,h2⟩:=names_ren f a p h; exact ⟨q,List.mem_append_left _ h1,h2⟩
  ·obtain ⟨q,h1,h2⟩:=names_ren f b p h; exact ⟨q,List.mem_append_right _ h1,h2⟩
 | .own r sz,p,h=>⟨r,.head _,(List.mem_singleton.1 h).symm⟩
 | .sref r sz lo n,p,h=>⟨r,.head _,(List.mem_singleton.1 h).symm⟩
 | .ptr r q,p,h=>⟨r,.head _,(List.mem_singleton.1 h).symm⟩
 | .mref r,p,h=>⟨r,.head _,(List.mem_singleton.1 h).symm⟩
 | .loc t L q,p,h=>by cases h
 | .fn g x,p,h=>names_ren f x p h
 | .tup x,p,h=>names_ren f x p h
 | .may g x,p,h=>names_ren f x p h
 | .undef,p,h=>by cases h
theorem sameRt_ren2 {f:Nat→Nat} {x y:Rt} (h:sameRt x y):sameRt x (renRt f y):=by
 cases x<;>cases y<;>exact h
theorem look_ren {g:Nat→Nat} {l:List (Nat × Rt)} {q:Nat} {y:Rt} (h:look (l.map fun x=>(g x.1,renRt g x.2)) q=some y):∃ x∈l,g x.1=q∧y=renRt g x.2:=by
 obtain ⟨x,hx,he⟩:=List.mem_map.1 (look_mem _ _ _ h)
 simp only [Prod.mk.injEq] at he
 exact ⟨x,hx,he.1,he.2.symm⟩
open Classical in
theorem call_back (hM:Heap M loc β H S w Wr own0 n0) (hbM:Below M n) (hov:Over ps M s0) (hkeys:∀ k,k∈e.hin.map (·.1)↔k∈ps.map (·.1)) (hall:∀ k r,(k,r)∈ps→(s0.root k).live=true)
  (hz:∀ k r,(k,r)∈ps→(s0.root k).live=true→∀ t L fz,(s0.root k).rt=.arr t L fz→(M.root r).rt=.arr t L fz) (hdead:∀ q,q ∉ ps.map (·.1)→(s0.root q).live=false)
  (hent:entOk e=true) {hs:List (Nat × Rt)} (hsk:hs.map (·.1)=e.hout.map (·.1)) (hnd:(e.hout.map (·.1)).Nodup) (hsn:∀ x∈hs,∀ p∈x.2.names,p∈e.hin.map (·.1)∨e.hin.length≤p)
  (hroot:∀ q,s'.root q=match look (kept (hs.map fun x=>(backName ps e.hin.length n x.1,renRt (backName ps e.hin.length n) x.2))) q with
   | some h=>h
   | none=>if q∈(e.hin.filter fun k=> !(keyIn e.hout k.1) && !(memB e.ro k.1)).map (fun k=>backName ps e.hin.length n k.1) then ⟨.ff,.gone⟩ else M.root q)
  (hE:Heap (endSt e s0 hs) locE β' H' S' w' Wr (fun id=>∃ r,(s0.root r).live=true∧(loc (srcBy ps r)).1=id) H.length) (hg:Gone Wr (fun id=>∃ r,(s0.root r).live=true∧(loc (srcBy ps r)).1=id) H.length β H S w β' H' S' w')
  (hf:Fol s0 (fun q=>loc (srcBy ps q)) (endSt e s0 hs) locE e.hin.length):
  ∃ loc',Heap s' loc' β' H' S' w' Wr own0 n0∧Gone Wr own0 n0 β H S w β' H' S' w'∧RenP (fun p=>p∈e.hin.map (·.1)∨e.hin.length≤p) (endSt e s0 hs) locE s' loc' (backName ps e.hin.length n)∧RenP (fun p=>p<n) M loc s' loc' (fun q=>q):=by
 obtain ⟨e1,e2⟩:=and2 hent
 obtain ⟨e2,e3⟩:=and2 e2
 have hlow:∀ k∈e.hin.map (·.1),k<e.hin.length:=fun k hk=>by
  obtain ⟨x,hx,rfl⟩:=List.mem_map.1 hk
  exact Nat.le_of_ble_eq_true (List.all_eq_true.1 e1 x hx)
 have hro:∀ k∈e.ro,k ∉ e.hout.map (·.1)∧k∈e.hin.map (·.1):=fun k hk=>by
  obtain ⟨h1,h2⟩:=and2 (List.all_eq_true.1 e3 k hk)
  exact ⟨(fun hm=>by rw [keyIn_iff.2 hm] at h1; cases h1),keyIn_iff.1 h2⟩
 have hout:∀ k∈e.hout.map (·.1),k∈e.hin.map (·.1)∨e.hin.length≤k:=fun k hk=>by
  obtain ⟨x,hx,rfl⟩:=List.mem_map.1 hk
  have:=List.all_eq_true.1 e2 x hx
  rw [Bool.or_eq_true] at this
  rcases this with h1 | h1
  ·exact .inr (Nat.le_of_ble_eq_true h1)
  ·exact .inl (keyIn_iff.1 h1)
 have hlv:∀ k r,(k,r)∈ps→(M.root r).live=true:=fun k r hkr=>by
  obtain ⟨h1,h2⟩:=hov.named k r hkr (hall k r hkr)
  exact live_iff.2 ⟨h1,h2.alive⟩
 have nmIn:∀ k r,(k,r)∈ps→backName ps e.hin.length n k=r:=fun k r hkr=>by unfold backName; rw [look_of_mem hov.once.l hkr]
 have nmOut:∀ k,k ∉ ps.map (·.1)→backName ps e.hin.length n k=n+(k - e.hin.length):=fun k hk=>by
  unfold backName
  cases hl:look ps k with
  | none=>rfl
  | some r=>exact absurd (look_key hl) hk
 have nmLt:∀ k,k∈e.hin.map (·.1)→backName ps e.hin.length n k<n:=fun k hk=>by
  obtain ⟨r,hkr⟩:=mem_left ((hkeys k).1 hk)
  rw [nmIn k r hkr]
  exact hbM.rootN (hlv k r hkr)
 have nmGe:∀ k,k ∉ e.hin.map (·.1)→n≤backName ps e.hin.length n k:=fun k hk=>by rw [nmOut k fun h=>hk ((hkeys k).2 h)]; omega
 have nmInj:∀ p p',(p∈e.hin.map (·.1)∨e.hin.length≤p)→(p'∈e.hin.map (·.1)∨e.hin.length≤p')→backName ps e.hin.length n p=backName ps e.hin.length n p'→p=p':=fun p p' hp hp' he=>by
  by_cases h1:p∈e.hin.map (·.1)
  ·have l1:=nmLt p h1
   by_cases h2:p'∈e.hin.map (·.1)
   ·obtain ⟨r,hr⟩:=mem_left ((hkeys p).1 h1)
    obtain ⟨r',hr'⟩:=mem_left ((hkeys p').1 h2)
    rw [nmIn p r hr,nmIn p' r' hr'] at he
    subst he
    rw [← hov.once.ren hr,← hov.once.ren hr']
   ·have l2:=nmGe p' h2
    omega
  ·have l1:=nmGe p h1
   by_cases h2:p'∈e.hin.map (·.1)
   ·have l2:=nmLt p' h2
    omega
   ·rw [nmOut p fun h=>h1 ((hkeys p).2 h),nmOut p' fun h=>h2 ((hkeys p').2 h)] at he
    have:=hp.resolve_left h1
    have:=hp'.resolve_left h2
    omega
 let kk:Nat→Prop:=fun k=>k∈e.hout.map (·.1)∨k∈e.ro
 have kkA:∀ k,kk k→k∈e.hin.map (·.1)∨e.hin.length≤k:=fun k hk=>by
  rcases hk with hk | hk
  ·exact hout k hk
  ·exact .inl (hro k hk).2
 let back:Nat→Option Nat:=fun q=>if h:∃ k,kk k∧backName ps e.hin.length n k=q then some h.choose else none
 have hback:∀ q k,back q=some k→kk k∧backName ps e.hin.length n k=q:=fun q k hq=>by
  simp only [back] at hq
  split at hq
  ·rename_i h
   injection hq with hq
   rw [← hq]; exact h.choose_spec
  ·cases hq
 have hbackOf:∀ k,kk k→back (backName ps e.hin.length n k)=some k:=fun k hk=>by
  simp only [back]
  have hex:∃ k',kk k'∧backName ps e.hin.length n k'=backName ps e.hin.length n k:=⟨k,hk,rfl⟩
  rw [dif_pos hex]
  have hsp:=hex.choose_spec
  rw [nmInj _ k (kkA _ hsp.1) (kkA k hk) hsp.2]
 have hbackNone:∀ q,back q=none→∀ k,kk k→backName ps e.hin.length n k≠q:=fun q hq k hk he=>by
  subst he
  rw [hbackOf k hk] at hq; cases hq
 have hndh:(hs.map (·.1)).Nodup:=by rw [hsk]; exact hnd
 have hLsome:∀ q h,look (kept (hs.map fun x=>(backName ps e.hin.length n x.1,renRt (backName ps e.hin.length n) x.2))) q=some h→∃ x∈hs,backName ps e.hin.length n x.1=q∧h=⟨.tt,renRt (backName ps e.hin.length n) x.2⟩:=fun q h hl=>by
  rw [look_kept] at hl
  obtain ⟨y,hy,rfl⟩:=Option.map_eq_some_iff.1 hl
  obtain ⟨x,hx,h1,h2⟩:=look_ren hy
  exact ⟨x,hx,h1,by rw [h2]⟩
 have hLof:∀ x∈hs,look (kept (hs.map fun x=>(backName ps e.hin.length n x.1,renRt (backName ps e.hin.length n) x.2))) (backName ps e.hin.length n x.1)=some ⟨.tt,renRt (backName ps e.hin.length n) x.2⟩:=fun x hx=>by
  have hk:backName ps e.hin.length n x.1∈((hs.map fun x=>(backName ps e.hin.length n x.1,renRt (backName ps e.hin.length n) x.2)).map (·.1)):=List.mem_map.2 ⟨_,List.mem_map.2 ⟨x,hx,rfl⟩,rfl⟩
  obtain ⟨y,hy⟩:=look_keys.1 hk
  obtain ⟨x',hx',h1,h2⟩:=look_ren hy
  have hxk:x.1∈e.hout.map (·.1):=by rw [← hsk]; exact List.mem_map.2 ⟨x,hx,rfl⟩
  have hxk':x'.1∈e.hout.map (·.1):=by rw [← hsk]; exact List.mem_map.2 ⟨x',hx',rfl⟩
  have hke:=nmInj _ _ (kkA _ (.inl hxk')) (kkA _ (.inl hxk)) h1
  have hxe:x'=x:=by
   have l1:=look_of_mem hndh (show (x.1,x.2)∈hs from hx)
   have l2:=look_of_mem hndh (show (x'.1,x'.2)∈hs from hx')
   rw [hke,l1] at l2
   injection l2 with l2
   exact Prod.ext hke l2.symm
  rw [look_kept,hy,h2,hxe]; rfl
 have hEroot:∀ x∈hs,(endSt e s0 hs).root x.1=⟨.tt,x.2⟩:=fun x hx=>by rw [endSt_root,look_of_mem hndh (show (x.1,x.2)∈hs from hx)]
 have hEro:∀ k∈e.ro,(endSt e s0 hs).root k=s0.root k:=fun k hk=>by
  rw [endSt_root]
  have:look hs k=none:=by
   cases hl:look hs k with
   | none=>rfl
   | some rt=>exact absurd (by rw [← hsk]; exact look_key hl) (hro k hk).1
  rw [this]
  simp only
  rw [if_pos hk]
 have hout':∀ k∈e.hout.map (·.1),∃ x∈hs,x.1=k:=fun k hk=>by rw [← hsk] at hk; obtain ⟨x,hx,rfl⟩:=List.mem_map.1 hk; exact ⟨x,hx,rfl⟩
 have hlostN:∀ q,q∈(e.hin.filter fun k=> !(keyIn e.hout k.1) && !(memB e.ro k.1)).map (fun k=>backName ps e.hin.length n k.1)↔∃ k∈e.hin.map (·.1),k ∉ e.hout.map (·.1)∧k ∉ e.ro∧backName ps e.hin.length n k=q:=fun q=>by
  constructor
  ·intro h
   obtain ⟨x,hx,rfl⟩:=List.mem_map.1 h
   obtain ⟨h1,h2⟩:=List.mem_filter.1 hx
   obtain ⟨h3,h4⟩:=and2 h2
   exact ⟨x.1,List.mem_map.2 ⟨x,h1,rfl⟩,(fun hm=>by rw [keyIn_iff.2 hm] at h3; cases h3),(fun hm=>by rw [memB_iff.2 hm] at h4; cases h4),rfl⟩
  ·rintro ⟨k,hk,h1,h2,rfl⟩
   obtain ⟨x,hx,rfl⟩:=List.mem_map.1 hk
   refine List.mem_map.2 ⟨x,List.mem_filter.2 ⟨hx,?_⟩,rfl⟩
   have b1:keyIn e.hout x.1=false:=by cases hb:keyIn e.hout x.1; rfl; exact absurd (keyIn_iff.1 hb) h1
   have b2:memB e.ro x.1=false:=by cases hb:memB e.ro x.1; rfl; exact absurd (memB_iff.1 hb) h2
   rw [b1,b2]; rfl
 have hcame:∀ q k,back q=some k→(s'.root q).live=true→((endSt e s0 hs).root k).live=true∧(s'.root q).rt=renRt (backName ps e.hin.length n) ((endSt e s0 hs).root k).rt∧∀ p∈((endSt e s0 hs).root k).rt.names,p∈e.hin.map (·.1)∨e.hin.length≤p:=fun q k hq hl=>by
  obtain ⟨hk,rfl⟩:=hback q k hq
  rw [hroot] at hl ⊢
  by_cases hko:k∈e.hout.map (·.1)
  ·obtain ⟨x,hx,rfl⟩:=hout' k hko
   rw [hLof x hx] at hl ⊢
   rw [hEroot x hx]
   simp only at hl ⊢
   refine ⟨?_,trivial,hsn x hx⟩
   have:=(live_iff.1 hl).2
   refine live_iff.2 ⟨rfl,?_⟩
   cases hx2:x.2<;>first | rfl | skip
   rw [hx2] at this; cases this
  ·have hkr:k∈e.ro:=hk.resolve_left hko
   have hnone:look (kept (hs.map fun x=>(backName ps e.hin.length n x.1,renRt (backName ps e.hin.length n) x.2))) (backName ps e.hin.length n k)=none:=by
    cases hl2:look (kept (hs.map fun x=>(backName ps e.hin.length n x.1,renRt (backName ps e.hin.length n) x.2))) (backName ps e.hin.length n k) with
    | none=>rfl
    | some h=>
     obtain ⟨x,hx,h1,_⟩:=hLsome _ _ hl2
     have hxk:x.1∈e.hout.map (·.1):=by rw [← hsk]; exact List.mem_map.2 ⟨x,hx,rfl⟩
     have:=nmInj _ _ (kkA _ (.inl hxk)) (kkA _ hk) h1
     exact absurd (this ▸ hxk) hko
   have hnl:backName ps e.hin.length n k ∉ (e.hin.filter fun k=> !(keyIn e.hout k.1) && !(memB e.ro k.1)).map (fun k=>backName ps e.hin.length n k.1):=fun hm=>by
    obtain ⟨k',h1,h2,h3,h4⟩:=(hlostN _).1 hm
    have:=nmInj _ _ (.inl h1) (kkA _ hk) h4
    subst this
    exact h3 hkr
   rw [hnone] at hl ⊢
   simp only at hl ⊢
   rw [if_neg hnl] at hl ⊢
   rw [hEro k hkr]
   obtain ⟨r,hkr'⟩:=mem_left ((hkeys k).1 (hro k hkr).2)
   rw [nmIn k r hkr'] at hl ⊢
   have hl0:=hall k r hkr'
   obtain ⟨g1,g2⟩:=hov.named k r hkr' hl0
   refine ⟨hl0,?_,fun p hp=> ?_⟩
   ·have hzz:=hz k r hkr' hl0
    generalize (M.root r).rt=x at g2 hzz
    generalize (s0.root k).rt=y at g2 hzz
    cases x<;>cases y<;>first | exact g2.elim | skip
    ·rename_i ty x ty' x'
     obtain ⟨rfl,_,g3,rfl⟩:=g2
     show Rt.var ty' x=Rt.var ty' (renT (backName ps e.hin.length n) (renT (renBy ps) x))
     rw [renT_inv x]
     intro p hp
     obtain ⟨k',hk'⟩:=mem_right (g3 p hp)
     rw [hov.once.ren hk',nmIn k' p hk']
    ·rename_i t L fz t' L' fz'
     exact hzz t' L' fz' rfl
    ·exact g2
   ·generalize (M.root r).rt=x at g2
    generalize (s0.root k).rt=y at g2 hp
    cases x<;>cases y<;>first | exact g2.elim | skip
    ·rename_i ty x ty' x'
     obtain ⟨rfl,_,g3,_⟩:=g2
     obtain ⟨p',hp',rfl⟩:=names_ren _ x p hp
     obtain ⟨k',hk'⟩:=mem_right (g3 p' hp')
     rw [hov.once.ren hk']
     exact .inl ((hkeys k').2 (List.mem_map.2 ⟨_,hk',rfl⟩))
    ·cases hp
    ·cases hp
 have hstay:∀ q,back q=none→(s'.root q).live=true→s'.root q=M.root q:=fun q hq hl=>by
  rw [hroot] at hl ⊢
  cases hl2:look (kept (hs.map fun x=>(backName ps e.hin.length n x.1,renRt (backName ps e.hin.length n) x.2))) q with
  | some h=>
   obtain ⟨x,hx,h1,_⟩:=hLsome _ _ hl2
   have hxk:x.1∈e.hout.map (·.1):=by rw [← hsk]; exact List.mem_map.2 ⟨x,hx,rfl⟩
   exact absurd h1 (hbackNone q hq x.1 (.inl hxk))
  | none=>
   rw [hl2] at hl
   simp only at hl ⊢
   by_cases hm:q∈(e.hin.filter fun k=> !(keyIn e.hout k.1) && !(memB e.ro k.1)).map (fun k=>backName ps e.hin.length n k.1)
   ·rw [if_pos hm] at hl; cases hl
   ·rw [if_neg hm]
 let loc':Loc:=fun q=>match back q with | some k=>locE k | none=>loc q
 have hlocS:∀ q k,back q=some k→loc' q=locE k:=fun q k hq=>by simp only [loc']; rw [hq]
 have hlocN:∀ q,back q=none→loc' q=loc q:=fun q hq=>by simp only [loc']; rw [hq]
 have hren:RenP (fun p=>p∈e.hin.map (·.1)∨e.hin.length≤p) (endSt e s0 hs) locE s' loc' (backName ps e.hin.length n):=fun p hp hl=>by
  cases hb:back (backName ps e.hin.length n p) with
  | some k=>
   obtain ⟨hk,hk2⟩:=hback _ _ hb
   have:=nmInj k p (kkA k hk) hp hk2
   subst this
   obtain ⟨c1,c2,_⟩:=hcame _ _ hb hl
   exact ⟨c1,hlocS _ _ hb,by rw [c2]; exact sameRt_ren2 (sameRt.refl (live_iff.1 c1).2)⟩
  | none=>
   exfalso
   have hnk:¬ kk p:=fun hk=>hbackNone _ hb p hk rfl
   have he:=hstay _ hb hl
   by_cases hin:p∈e.hin.map (·.1)
   ·rw [hroot] at hl
    cases hl2:look (kept (hs.map fun x=>(backName ps e.hin.length n x.1,renRt (backName ps e.hin.length n) x.2))) (backName ps e.hin.length n p) with
    | some h=>
     obtain ⟨x,hx,h1,_⟩:=hLsome _ _ hl2
     have hxk:x.1∈e.hout.map (·.1):=by rw [← hsk]; exact List.mem_map.2 ⟨x,hx,rfl⟩
     exact hbackNone _ hb x.1 (.inl hxk) h1
    | none=>
     rw [hl2] at hl
     simp only at hl
     rw [if_pos ((hlostN _).2 ⟨p,hin,fun h=>hnk (.inl h),fun h=>hnk (.inr h),rfl⟩)] at hl
     cases hl
   ·have hge:=nmGe p hin
    rw [he] at hl
    have:=hbM.rootN hl
    omega
 have hids:RenP (fun p=>p<n) M loc s' loc' (fun q=>q):=fun p hp hl=>by
  cases hb:back p with
  | some k=>
   obtain ⟨hk,rfl⟩:=hback _ _ hb
   have hin:k∈e.hin.map (·.1):=by
    refine Classical.byContradiction fun hn=> ?_
    have:=nmGe k hn
    omega
   obtain ⟨r,hkr⟩:=mem_left ((hkeys k).1 hin)
   obtain ⟨c1,c2,_⟩:=hcame _ _ hb hl
   obtain ⟨f1,f2,f3⟩:=hf k (hlow k hin) c1
   obtain ⟨g1,g2⟩:=hov.named k r hkr f1
   rw [nmIn k r hkr] at hb c2 ⊢
   refine ⟨live_iff.2 ⟨g1,g2.alive⟩,?_,?_⟩
   ·show loc' r=loc r
    rw [hlocS _ _ hb,f2]
    show loc (srcBy ps k)=loc r
    rw [hov.once.src hkr]
   ·show sameRt (M.root r).rt (s'.root r).rt
    rw [c2]
    exact sameRt_ren2 (g2.same.trans f3)
  | none=>
   have he:=hstay _ hb hl
   refine ⟨by rw [← he]; exact hl,hlocN _ hb,?_⟩
   show sameRt (M.root p).rt (s'.root p).rt
   rw [he]
   exact sameRt.refl (by rw [← he]; exact (live_iff.1 hl).2)
 have hb:Back M loc s0 (fun q=>loc (srcBy ps q)) (endSt e s0 hs) locE s' loc' (backName ps e.hin.length n) back (fun p=>p∈e.hin.map (·.1)∨e.hin.length≤p) (fun p=>p<n):=by
  refine ⟨fun k hl=> ?_,fun q k hq hl=> ?_,fun q hq hl=> ?_,fun q q' k hq hq' _ _=> ?_,hren,hids⟩
  ·have hk:k∈ps.map (·.1):=by
    refine Classical.byContradiction fun hn=> ?_
    rw [hdead k hn] at hl; cases hl
   obtain ⟨r,hkr⟩:=mem_left hk
   refine ⟨r,hlv k r hkr,by show loc (srcBy ps k)=loc r; rw [hov.once.src hkr],fun hl'=> ?_⟩
   have hin:=(hkeys k).2 hk
   by_cases hkk:kk k
   ·rw [← nmIn k r hkr,hbackOf k hkk]; rfl
   ·cases hb:back r with
    | some _=>rfl
    | none=>
     exfalso
     rw [hroot] at hl'
     cases hl2:look (kept (hs.map fun x=>(backName ps e.hin.length n x.1,renRt (backName ps e.hin.length n) x.2))) r with
     | some h=>
      obtain ⟨x,hx,h1,_⟩:=hLsome _ _ hl2
      have hxk:x.1∈e.hout.map (·.1):=by rw [← hsk]; exact List.mem_map.2 ⟨x,hx,rfl⟩
      exact hbackNone _ hb x.1 (.inl hxk) h1
     | none=>
      rw [hl2] at hl'
      simp only at hl'
      rw [if_pos ((hlostN _).2 ⟨k,hin,fun h=>hkk (.inl h),fun h=>hkk (.inr h),nmIn k r hkr⟩)] at hl'
      cases hl'
  ·obtain ⟨c1,c2,c3⟩:=hcame q k hq hl
   exact ⟨c1,c2,hlocS q k hq,c3⟩
  ·have he:=hstay q hq hl
   exact ⟨he,hlocN q hq,fun p hp=>hbM.varN hp⟩
  ·obtain ⟨_,h1⟩:=hback q k hq
   obtain ⟨_,h2⟩:=hback q' k hq'
   rw [← h1,← h2]
 obtain ⟨r1,r2⟩:=hb.heap (own1:=fun id=>∃ r,(s0.root r).live=true∧(loc (srcBy ps r)).1=id) hM (fun id h=>h) hE hg
 exact ⟨loc',r1,r2,hren,hids⟩
end
end Go.Tm

namespace Go.Tm
open Go.Vm
set_option linter.unusedVariables false
set_option linter.unusedSimpArgs false
section
variable {ps:List (Nat × Nat)} {N:Nat} {a M s s0 s':St} {loc loc' locE:Loc} {β β':Nat→Option (Nat × Nat)} {H H':List Ob} {S S':Nat→Nat→Prop} {act:Act} {w w':World} {Wr:Nat→Prop} {own0 own1:Nat→Prop} {n0 n fr:Nat} {e:Ent} {P:Program}
theorem bind_same {sks xs:List T} {hr:List (Nat × Rt)} {g:G} {lv:List Leaf} (h:bindTo a ps sks xs hr=some (g,lv)) (hg:g.val=true) (hz:sameFz a ps hr=true):
  Once ps∧(hr.map (·.1)).Nodup∧(∀ k,k∈hr.map (·.1)↔k∈ps.map (·.1))∧sks.length=xs.length∧(∀ x∈xs,x.need.1.val=true∧∀ q∈x.need.2.names,q∈ps.map (·.2))∧
  ∃ l2 hr',plugTs sks lv=some (xs.map fun x=>renT (renBy ps) x.need.2,l2)∧plugRs hr l2=some (hr',[])∧hr'.map (·.1)=hr.map (·.1)∧
   ∀ k rt,look hr' k=some rt→∃ r,(k,r)∈ps∧(a.root r).g.val=true∧RtFit ps (a.root r).rt rt∧∀ t L fz,rt=.arr t L fz→(a.root r).rt=.arr t L fz:=by
 obtain ⟨h1,h2,h3,h4,h5,l2,hr',k1,k2,k3,k4⟩:=bind_some h hg
 refine ⟨h1,h2,h3,h4,h5,l2,hr',k1,k2,k3,fun k rt hl=> ?_⟩
 obtain ⟨r,m1,m2,m3⟩:=k4 k rt hl
 refine ⟨r,m1,m2,m3,fun t L fz ht=> ?_⟩
 unfold bindTo at h
 split at h
 ·split at h
  ·rename_i g1 l1' g2 l2' hm hn
   simp only [Option.some.injEq,Prod.mk.injEq] at h
   obtain ⟨rfl,rfl⟩:=h
   rw [G.and_val] at hg
   obtain ⟨hg1,hg2⟩:=and2 hg
   obtain ⟨q1,q2,q3⟩:=matchTs_some sks xs g1 l1' hm hg1 l2'
   rw [q1] at k1
   simp only [Option.some.injEq,Prod.mk.injEq] at k1
   obtain ⟨_,rfl⟩:=k1
   obtain ⟨hr2,p1,p2,p3⟩:=matchRs_some hr g2 l2' hn hg2
   have:=p1 []
   rw [List.append_nil,k2] at this
   simp only [Option.some.injEq,Prod.mk.injEq] at this
   obtain ⟨rfl,_⟩:=this
   obtain ⟨r',sk,e1,e2,e3,e4,e5,e6⟩:=p3 k rt (look_mem _ _ _ hl)
   have hrr:r'=r:=by
    have:=look_of_mem h1.l m1
    rw [e2] at this
    injection this
   subst hrr
   have hzz:=List.all_eq_true.1 hz _ e1
   simp only [e2] at hzz
   rw [ht] at m3 e5
   generalize (a.root r').rt=y at m3 e4 e5 hzz
   cases y with
   | gone=>exact m3.elim
   | var ty x=>exact m3.elim
   | map k v L=>exact m3.elim
   | arr t' L' fz'=>
    cases sk with
    | gone=>cases e4
    | var ty x=>cases e4
    | map k v L=>cases e4
    | arr t2 L2 fz2=>
     simp only at hzz
     have hzz:fz2=fz':=by simpa using hzz
     subst hzz
     exact e5.symm
  ·cases h
 ·cases h
theorem applyTo_some {F:Fun} {g0:G} {lv:List Leaf} {r:OpR} (h:applyTo fr s M n F ps g0 lv=some r):∃ x res l1 hs,HL.of F.e.ins lv=some x∧plugTs F.e.aout (HL.leaves F.e.outs (F.fn x).2)=some (res,l1)∧plugRs F.e.hout l1=some (hs,[])∧
  (∀ x∈res,∀ p∈x.names,p∈F.e.hin.map (·.1)∨F.e.hin.length≤p)∧(∀ x∈hs,∀ p∈x.2.names,p∈F.e.hin.map (·.1)∨F.e.hin.length≤p)∧(∀ x∈applyUp s M n F.e ps hs,x.1<fr+stride)∧(F.e.hout.map (·.1)).Nodup∧
  r=⟨.and g0 (.of (F.fn x).1),asRes (res.map (renT (backName ps F.e.hin.length n))),applyUp s M n F.e ps hs⟩:=by
 unfold applyTo at h
 split at h
 ·rename_i x hx
  split at h
  ·rename_i res l1 h1
   split at h
   ·rename_i hs h2
    split at h
    ·rename_i hc
     obtain ⟨hc,hn⟩:=and2 hc
     obtain ⟨c1,hc⟩:=and2 hc
     obtain ⟨c2,c3⟩:=and2 hc
     injection h with h
     have hor:∀ p,(keyIn F.e.hin p || Nat.ble F.e.hin.length p)=true→p∈F.e.hin.map (·.1)∨F.e.hin.length≤p:=fun p hp=>by
      rw [Bool.or_eq_true] at hp
      rcases hp with hp | hp
      ·exact .inl (keyIn_iff.1 hp)
      ·exact .inr (Nat.le_of_ble_eq_true hp)
     exact ⟨x,res,l1,hs,hx,h1,h2,fun x hx p hp=>hor p (List.all_eq_true.1 (List.all_eq_true.1 c1 x hx) p hp),fun x hx p hp=>hor p (List.all_eq_true.1 (List.all_eq_true.1 c2 x hx) p hp),fun x hx=>Nat.le_of_ble_eq_true (List.all_eq_true.1 c3 x hx),nodupB_iff hn,h.symm⟩
    ·cases h
   ·cases h
  ·cases h
 ·cases h
theorem asRes_ren (f:Nat→Nat) (l:List T):asRes (l.map (renT f))=renT f (asRes l):=by
 have h:∀ l:List T,T.ofList (l.map (renT f))=renT f (T.ofList l):=by
  intro l
  induction l with
  | nil=>rfl
  | cons x l ih=>simp only [List.map_cons,T.ofList,renT,ih]
 match l with
 | []=>rfl
 | [x]=>rfl
 | x::y::l=>
  show T.tup (T.ofList ((x::y::l).map (renT f)))=T.tup (renT f (T.ofList (x::y::l)))
  rw [h]
theorem asRes_names {l:List T} {p:Nat} (h:p∈(asRes l).names):∃ x∈l,p∈x.names:=by
 have hl:∀ l:List T,p∈(T.ofList l).names→∃ x∈l,p∈x.names:=by
  intro l
  induction l with
  | nil=>intro h; cases h
  | cons x l ih=>
   intro h
   rcases List.mem_append.1 (show p∈x.names++(T.ofList l).names from h) with h | h
   ·exact ⟨x,.head _,h⟩
   ·obtain ⟨y,h1,h2⟩:=ih h
    exact ⟨y,.tail _ h1,h2⟩
 match l with
 | []=>cases h
 | [x]=>exact ⟨x,.head _,h⟩
 | x::y::l=>exact hl _ h
theorem capList_rel:∀ (d:Nat) (x:T) (l:List T),capList d x=some l→x.solid=true→∀ us,RelL β H S w (encC s loc x) us→us.length=l.length∧(∀ (i:Nat) y u,l[i]? =some y→us[i]? =some u→RelD β H S w (encD s loc y) u)∧∀ y∈l,∀ q∈y.names,q∈x.names
 | 0,x,l,h,hs,us,hr=>by cases h
 | d+1,x,l,h,hs,us,hr=>by
  unfold capList at h
  split at h
  ·injection h with h
   subst h
   have hr:RelL β H S w [] us:=hr
   simp only [RelL] at hr
   subst hr
   exact ⟨rfl,fun i y u hy=>by simp at hy,fun y hy=>by cases hy⟩
  ·split at h
   ·rename_i a b hsp
    split at h
    ·rename_i hc
     obtain ⟨c1,hc⟩:=and2 hc
     obtain ⟨c2,c3⟩:=and2 hc
     split at h
     ·rename_i l' hl'
      injection h with h
      subst h
      obtain ⟨e1,_,e3,_⟩:=split_enc s loc hsp
      obtain ⟨n1,n2⟩:=split_names hsp
      rw [e1] at hr
      obtain ⟨u1,u2,rfl,r1,r2⟩:=RelL.split hr
      have hlen:(encC s loc a).length=1:=by rw [encC_len s loc a c1,beq2 c2]
      obtain ⟨k1,k2,k3⟩:=capList_rel d b l' hl' (e3 hs).2 u2 r2
      match hc':encC s loc a,hlen with
      | [c],_=>
       rw [hc'] at r1
       simp only [RelL] at r1
       obtain ⟨u,us',rfl,q1,rfl⟩:=r1
       refine ⟨by simp [k1],fun i y v hy hv=> ?_,fun y hy q hq=> ?_⟩
       ·cases i with
        | zero=>
         simp at hy hv
         subst hy; subst hv
         rw [encD_v c1 (by rw [c2,Bool.or_true])]
         have hrow:a.isRow=false:=by simpa using c3
         show RelV β H S w (encV s loc a) u
         unfold encV
         rw [hrow,hc']
         exact q1
        | succ i=>exact k2 i y v (by simpa using hy) (by simpa using hv)
       ·cases hy with
        | head=>exact n1 q hq
        | tail _ hy=>exact n2 q (k3 y hy q hq)
     ·cases h
    ·cases h
   ·cases h
end
end Go.Tm

namespace Go.Tm
open Go.Vm
set_option linter.unusedVariables false
set_option linter.unusedSimpArgs false
section
variable {N:Nat} {s:St} {loc:Loc} {β:Nat→Option (Nat × Nat)} {H:List Ob} {S:Nat→Nat→Prop} {w:World} {Wr:Nat→Prop} {own0:Nat→Prop} {n0 fr:Nat} {P:Program}
theorem apply_sound {F:Fun} (hF:FunOk P F) {a:Act} (hh:Heap s loc β H S w Wr own0 n0) (hsl:Slots s loc β H S w a) (hb:Below s fr) {args:List T} {vals:Array Value} (hlen:vals.size=args.length)
  (hargs:∀ i x,args[i]? =some x→RelD β H S w (encD s loc x) (vals.getD i undef)) (hn:∀ x∈args,∀ q∈x.names,q<fr) {r:OpR} (h:applyEnt s fr F args=some r) (hok:r.ok.val=true):
  Calls P F.e.f vals w fun e w'=>∃ v loc' β' H' S',e=.returned v∧RelD β' H' S' w' (encD (addUp s .tt r.up) loc' r.res) v∧Heap (addUp s .tt r.up) loc' β' H' S' w' Wr own0 n0∧Gone Wr own0 n0 β H S w β' H' S' w'∧
   Follow s loc (addUp s .tt r.up) loc' fr (fr+stride):=by
 unfold applyEnt at h
 split at h
 ·rename_i zs fs ts hzs
  unfold applyIn at h
  generalize nubP ((F.e.ain.zip zs).flatMap fun x=>x.1.zipNames x.2.need.2)=ps0 at h
  have hbz:=adaptRoots_grows (underNames F.e ps0) (ps0.map (·.2)) (addNils (frzs s fs) fr ts) (fr+ts.length)
  have hbs:=fun {N:Nat} {loc:Loc} {β:Nat→Option (Nat × Nat)} {H:List Ob} {S:Nat→Nat→Prop} {act:Act} {w:World} {Wr:Nat→Prop} {own0:Nat→Prop} {n0:Nat} (hs:SR N (addNils (frzs s fs) fr ts) loc β H S act w Wr own0 n0) (hb:Below (addNils (frzs s fs) fr ts) (fr+ts.length))=>
   adaptRoots_sound (b:=underNames F.e ps0) (ps0.map (·.2)) hs hb
  generalize adaptRoots (underNames F.e ps0) (ps0.map (·.2)) (addNils (frzs s fs) fr ts) (fr+ts.length)=z at h hbz hbs
  obtain ⟨M,n⟩:=z
  unfold applyAt at h
  simp only at h hbz hbs
  generalize closePs F.e.hin M depth ps0=ps at h
  unfold applyPs at h
  split at h
  ·rename_i hfz
   split at h
   ·rename_i g lv hbind
    obtain ⟨x,res,l1,hs,hx,hres,hhs,hrn,hsn,hup,hnd,hr⟩:=applyTo_some h
    rw [hr] at hok
    have hok':(G.and g (.of (F.fn x).1)).val=true:=hok
    rw [G.and_val] at hok'
    obtain ⟨hg,hfn⟩:=and2 hok'
    have hfn:(F.fn x).1=true:=hfn
    obtain ⟨hpos,hzlen⟩:=adaptTs_pos _ _ _ _ _ _ hzs
    obtain ⟨locM,βM,HM,SM,m1,m2,m3,m4⟩:=adapt_env hh hb fs ts hpos
    have hzrel:=adaptTs_sound m1 args F.e.ain fr zs fs ts hzs hn (Nat.le_refl _) (fun i t hi=>addNils_new ts _ fr i t hi) m4
    obtain ⟨hi1,hfo1⟩:=m1.fol.follow
    have hsr1:SR a.tmps.size (addNils (frzs s fs) fr ts) locM βM HM SM {a with defers:= []} w Wr own0 n0:=
     ⟨fun t=>by
      have hslot:(addNils (frzs s fs) fr ts).slot t=s.slot t:=by rw [addNils_slot,frzs_eq,addUp_slot]
      rw [hslot]
      exact Gone.rel m2 hfo1 (fun q hq hk=>by have:=hb.slotN hq; omega) (hsl t),m1.heap,rfl,rfl⟩
    obtain ⟨hnn,loc2,β2,H2,S2,p1,p2,p3,p4⟩:=hbs hsr1 m3
    have hgrM:Grows s M:=((frzs_grows s fs).trans (addNils_grows ts _ fr)).trans hbz.1
    obtain ⟨b1,b2,b3,b4,b5,l2,hr',k1,k2,k3,k4⟩:=bind_same hbind hg hfz
    have hleaf:=HL.of_leaves _ _ _ hx
    have hst:∃ s0,startSt F.e lv=some s0:=by unfold startSt; rw [k1]; simp only; rw [k2]; exact ⟨_,rfl⟩
    obtain ⟨s0,hst⟩:=hst
    obtain ⟨ts0,l0,rs0,t1,t2,t3,t4,t5,t6⟩:=startSt_some hst
    rw [k1] at t1
    simp only [Option.some.injEq,Prod.mk.injEq] at t1
    obtain ⟨rfl,rfl⟩:=t1
    rw [k2] at t2
    simp only [Option.some.injEq,Prod.mk.injEq] at t2
    obtain ⟨rfl,_⟩:=t2
    have hlook:∀ k r,(k,r)∈ps→∃ rt,look hr' k=some rt∧(M.root r).g.val=true∧RtFit ps (M.root r).rt rt∧∀ t L fz,rt=.arr t L fz→(M.root r).rt=.arr t L fz:=fun k r hkr=>by
     have hk:k∈hr'.map (·.1):=by rw [k3,b3]; exact List.mem_map.2 ⟨_,hkr,rfl⟩
     obtain ⟨rt,hrt⟩:=look_keys.1 hk
     obtain ⟨r',q1,q2,q3,q4⟩:=k4 k rt hrt
     have:r'=r:=by rw [← b1.src q1,← b1.src hkr]
     subst this
     exact ⟨rt,hrt,q2,q3,q4⟩
    have hdead:∀ q,q ∉ ps.map (·.1)→(s0.root q).live=false:=fun q hq=>by
     rw [t6]
     cases hl:look hr' q with
     | none=>rfl
     | some rt=>exact absurd (by rw [← b3,← k3]; exact look_key hl) hq
    have hov:Over ps M s0:=⟨b1,fun k r hkr hl=>by
     obtain ⟨rt,q1,q2,q3,_⟩:=hlook k r hkr
     rw [t6,q1]; exact ⟨q2,q3⟩,fun q hq hl=>by rw [hdead q hq] at hl; cases hl⟩
    have hall:∀ k r,(k,r)∈ps→(s0.root k).live=true:=fun k r hkr=>by
     obtain ⟨rt,q1,q2,q3,_⟩:=hlook k r hkr
     rw [t6,q1]
     refine live_iff.2 ⟨rfl,?_⟩
     simp only
     generalize (M.root r).rt=y at q3
     cases y<;>cases rt<;>first | rfl | exact q3.elim
    have hz:∀ k r,(k,r)∈ps→(s0.root k).live=true→∀ t L fz,(s0.root k).rt=.arr t L fz→(M.root r).rt=.arr t L fz:=fun k r hkr _ t L fz ht=>by
     obtain ⟨rt,q1,q2,q3,q4⟩:=hlook k r hkr
     rw [t6,q1] at ht
     exact q4 t L fz ht
    have hheap0:=Over.heap_same p1.heap hov hz
    have hheap1:=Heap.owns hheap0
    obtain ⟨hi2,hfo2⟩:=p3.follow
    obtain ⟨hent,hcalls⟩:=hF.runs x s0 res l1 hs (by rw [hleaf]; exact hst) hfn hres hhs
    have hargs0:∀ t,t<F.e.ain.length→RelD β2 H2 S2 w (encD s0 (fun q=>loc2 (srcBy ps q)) (s0.slot t)) (vals.getD t undef):=fun t ht=>by
     rw [t4,List.getElem?_map]
     have htz:t<zs.length:=by rw [← b4]; exact ht
     rw [List.getElem?_eq_getElem htz]
     simp only [Option.map_some,Option.getD_some]
     have hta:t<args.length:=by rw [← hzlen]; exact htz
     obtain ⟨z1,z2⟩:=hzrel t args[t] zs[t] (List.getElem?_eq_getElem hta) (List.getElem?_eq_getElem htz)
     have u0:=hargs t args[t] (List.getElem?_eq_getElem hta)
     have u1:=z1 _ (RelD.step m2.ext m2.evo _ _ u0)
     have u2:=Gone.rel p2 hfo2 (fun q hq hk=>by have:=z2 q hq; omega) u1
     obtain ⟨c1,c2⟩:=b5 zs[t] (List.getElem_mem htz)
     exact hov.value (.inl ⟨c1,rfl,c2⟩) (Gone.refl Wr own0 n0 _ _ _ _) u2
    refine (hcalls _ β2 H2 S2 w Wr _ H2.length vals hheap1 (by rw [hlen,← hzlen,b4]) hargs0).mono ?_
    rintro e w' ⟨v,locE,β',H',S',rfl,hE,hv,hgE,hfE⟩
    have hroot:∀ q,(addUp s .tt (applyUp s M n F.e ps hs)).root q=match look (kept (hs.map fun x=>(backName ps F.e.hin.length n x.1,renRt (backName ps F.e.hin.length n) x.2))) q with
      | some h=>h
      | none=>if q∈(F.e.hin.filter fun k=> !(keyIn F.e.hout k.1) && !(memB F.e.ro k.1)).map (fun k=>backName ps F.e.hin.length n k.1) then ⟨.ff,.gone⟩ else M.root q:=fun q=>by
     rw [addUp_root_tt]
     unfold applyUp
     rw [look_append]
     cases look (kept (hs.map fun x=>(backName ps F.e.hin.length n x.1,renRt (backName ps F.e.hin.length n) x.2))) q with
     | some h=>rfl
     | none=>
      simp only
      have hmap:((F.e.hin.filter fun k=> !(keyIn F.e.hout k.1) && !(memB F.e.ro k.1)).map fun k=>(backName ps F.e.hin.length n k.1,(⟨.ff,.gone⟩:HE)))=((F.e.hin.filter fun k=> !(keyIn F.e.hout k.1) && !(memB F.e.ro k.1)).map (fun k=>backName ps F.e.hin.length n k.1)).map (fun r=>(r,(⟨.ff,.gone⟩:HE))):=by rw [List.map_map]; rfl
      rw [hmap,look_gone]
      by_cases hm:q∈(F.e.hin.filter fun k=> !(keyIn F.e.hout k.1) && !(memB F.e.ro k.1)).map (fun k=>backName ps F.e.hin.length n k.1)
      ·rw [if_pos hm,if_pos hm]
      ·rw [if_neg hm,if_neg hm]
       obtain ⟨_,⟨y,hy⟩⟩:=hgrM
       unfold St.root
       rw [hy,fresh_append,look_append]
       cases look y q<;>rfl
    obtain ⟨loc',r1,r2,r3,r4⟩:=call_back (s':=addUp s .tt (applyUp s M n F.e ps hs)) p1.heap p4 hov b3 hall hz hdead hent (plugRs_keys hhs) hnd hsn hroot hE hgE hfE
    rw [hr]
    refine ⟨v,loc',β',H',S',rfl,?_,r1,(m2.trans p2).trans r2,fun q hq hl=> ?_⟩
    ·show RelD β' H' S' w' (encD (addUp s .tt (applyUp s M n F.e ps hs)) loc' (asRes (res.map (renT (backName ps F.e.hin.length n))))) v
     rw [asRes_ren]
     exact encD_ren r3 _ _ (fun p hp=>by obtain ⟨y,h1,h2⟩:=asRes_names hp; exact hrn y h1 p h2) hv
    ·have hl:((addUp s .tt (applyUp s M n F.e ps hs)).root q).live=true:=hl
     have hlt:q<fr:=by
      refine Classical.byContradiction fun hge=> ?_
      have hge2:fr+stride≤q:=by
       refine Classical.byContradiction fun h2=>hq ⟨by omega,by omega⟩
      rw [addUp_root_tt] at hl
      cases hlk:look (applyUp s M n F.e ps hs) q with
      | some h=>
       have:=hup _ (look_mem _ _ _ hlk)
       simp only at this
       omega
      | none=>
       rw [hlk] at hl
       have:=hb.rootN hl
       omega
     obtain ⟨f1,f2,f3⟩:=r4 q (by omega) hl
     obtain ⟨f4,f5,f6⟩:=p3 q (by omega) f1
     obtain ⟨f7,f8,f9⟩:=m1.fol q hlt f4
     exact ⟨f7,f2.trans (f5.trans f8),(f9.trans f6).trans f3⟩
   ·cases h
  ·cases h
 ·cases h
theorem callT_sound {a:Act} (hh:Heap s loc β H S w Wr own0 n0) (hsl:Slots s loc β H S w a) (hb:Below s fr) {args:List T} {vals:Array Value} (hlen:vals.size=args.length)
  (hargs:∀ i x,args[i]? =some x→RelD β H S w (encD s loc x) (vals.getD i undef)) (hn:∀ x∈args,∀ q∈x.names,q<fr) {f:FuncId} {r:OpR} :∀ (K:List Fun),(∀ F∈K,FunOk P F)→callT s fr f args K=some r→r.ok.val=true→
  (∀ (vals:Array Value) (w:World),(callFunc f vals).run P w=.ok (.enter f vals) w)∧Calls P f vals w fun e w'=>∃ v loc' β' H' S',e=.returned v∧RelD β' H' S' w' (encD (addUp s .tt r.up) loc' r.res) v∧Heap (addUp s .tt r.up) loc' β' H' S' w' Wr own0 n0∧Gone Wr own0 n0 β H S w β' H' S' w'∧
   Follow s loc (addUp s .tt r.up) loc' fr (fr+stride)
 | [],_,h,_=>by cases h
 | F::K,hK,h,hok=>by
  unfold callT at h
  cases hf:Nat.beq F.e.f f with
  | false=>
   rw [hf] at h
   exact callT_sound hh hsl hb hlen hargs hn K (fun F hF=>hK F (.tail _ hF)) h hok
  | true=>
   rw [hf] at h
   have hfe:=beq2 hf
   have h:(match applyEnt s fr F args with | some r=>some r | none=>callT s fr f args K)=some r:=h
   split at h
   ·rename_i r' hr
    injection h with h
    subst h
    subst hfe
    exact ⟨(hK F (.head _)).call,apply_sound (hK F (.head _)) hh hsl hb hlen hargs hn hr hok⟩
   ·exact callT_sound hh hsl hb hlen hargs hn K (fun F hF=>hK F (.tail _ hF)) h hok
theorem addUp_like {s1 s2:St} (h:∀ q,(s1.root q).like (s2.root q)):∀ (l:List (Nat × HE)) (q:Nat),((addUp s1 .tt l).root q).like ((addUp s2 .tt l).root q)
 | [],q=>h q
 | (r,e)::l,q=>by
  rw [addUp_cons,addUp_cons,root_keep,root_keep]
  split
  ·exact HE.like.rfl _
  ·exact addUp_like h l q
theorem look_force (s:St) (q:Nat):∀ l:List Nat,look (l.map fun r=>(r,(⟨.tt,(s.root r).rt⟩:HE))) q=if q∈l then some ⟨.tt,(s.root q).rt⟩ else none
 | []=>by simp [look]
 | r::l=>by
  rw [List.map_cons,look_cons,look_force s q l]
  by_cases h:r=q
  ·subst h; simp
  ·have:¬ q=r:=fun e=>h e.symm
   simp [h,this]
theorem look_app {α:Type} (q:Nat):∀ (l m:List (Nat × α)),look (l++m) q=match look l q with | some x=>some x | none=>look m q
 | [],m=>rfl
 | (r,x)::l,m=>by
  rw [List.cons_append,look_cons,look_cons,look_app q l m]
  split<;>rfl
theorem force_root (s:St) (l:List Nat) (q:Nat):(force s l).root q=if q∈l then ⟨.tt,(s.root q).rt⟩ else s.root q:=by
 unfold force
 show (look (_++s.hp) q).getD _=_
 rw [look_app,look_force]
 split
 ·rename_i x h
  split at h
  ·rename_i hm; rw [if_pos hm]; injection h with h; rw [← h]; rfl
  ·cases h
 ·rename_i h
  split at h
  ·cases h
  ·rename_i hm; rw [if_neg hm]; rfl
theorem guardsOf_val {s:St} :∀ {l:List Nat},(guardsOf s l).val=true→∀ q∈l,(s.root q).g.val=true
 | [],_,q,hq=>nomatch hq
 | r::l,h,q,hq=>by
  unfold guardsOf at h
  rw [G.and_val] at h
  obtain ⟨h1,h2⟩:=and2 h
  rcases List.mem_cons.1 hq with rfl | hq
  ·exact h1
  ·exact guardsOf_val h2 q hq
theorem callF_sound {a:Act} (hh:Heap s loc β H S w Wr own0 n0) (hsl:Slots s loc β H S w a) (hb:Below s fr) {args:List T} {vals:Array Value} (hlen:vals.size=args.length)
  (hargs:∀ i x,args[i]? =some x→RelD β H S w (encD s loc x) (vals.getD i undef)) (hn:∀ x∈args,∀ q∈x.names,q<fr) {f:FuncId} {r:OpR} (K:List Fun) (hK:∀ F∈K,FunOk P F) (l:List Nat) (h:callF s fr f args K l=some r) (hok:r.ok.val=true):
  (∀ (vals:Array Value) (w:World),(callFunc f vals).run P w=.ok (.enter f vals) w)∧Calls P f vals w fun e w'=>∃ v loc' β' H' S',e=.returned v∧RelD β' H' S' w' (encD (addUp s .tt r.up) loc' r.res) v∧Heap (addUp s .tt r.up) loc' β' H' S' w' Wr own0 n0∧Gone Wr own0 n0 β H S w β' H' S' w'∧
   Follow s loc (addUp s .tt r.up) loc' fr (fr+stride):=by
 unfold callF at h
 split at h
 ·rename_i r0 hr0
  injection h with h
  subst h
  rw [G.and_val] at hok
  obtain ⟨hg,hok0⟩:=and2 hok
  have hrt:∀ q,((force s l).root q).rt=(s.root q).rt:=fun q=>by rw [force_root]; split<;>rfl
  have hlike:∀ q,((force s l).root q).like (s.root q):=fun q=>by
   rw [force_root]
   split
   ·rename_i hm; exact .inr (.inr ⟨(guardsOf_val hg q hm).symm,rfl⟩)
   ·exact HE.like.rfl _
  have hlike':∀ q,(s.root q).like ((force s l).root q):=fun q=>by
   rw [force_root]
   split
   ·rename_i hm; exact .inr (.inr ⟨guardsOf_val hg q hm,rfl⟩)
   ·exact HE.like.rfl _
  have hb':Below (force s l) fr:=fun hi=>⟨(hb hi).slots,fun q h1 h2=>by rw [(hlike q).live]; exact (hb hi).roots q h1 h2,fun q ty x hx=>(hb hi).vars q ty x (by rw [← hrt]; exact hx)⟩
  obtain ⟨k1,k2⟩:=callT_sound (P:=P) (Heap.congr hlike hh) (a:=a) (fun t=>by
   have:=hsl t
   rw [← encD_congr hlike] at this
   exact this) hb' hlen (fun i x hx=>by rw [encD_congr hlike]; exact hargs i x hx) hn K hK hr0 hok0
  refine ⟨k1,k2.mono ?_⟩
  rintro e w' ⟨v,loc',β',H',S',rfl,h1,h2,h3,h4⟩
  have hup:=addUp_like hlike' r0.up
  refine ⟨v,loc',β',H',S',rfl,by rw [encD_congr hup]; exact h1,Heap.congr hup h2,h3,?_⟩
  exact ((Follow.congr hlike fr (fr+stride)).trans h4).trans (Follow.congr hup fr (fr+stride))
 ·cases h
theorem zip_map_get {α β γ:Type} (f:α→β→γ) (l:List α) (m:List β) (h:l.length=m.length) (i:Nat) (y:γ) (hy:((l.zip m).map fun x=>f x.1 x.2)[i]? =some y):∃ x t,l[i]? =some x∧m[i]? =some t∧y=f x t:=by
 rw [List.getElem?_map] at hy
 obtain ⟨⟨x,t⟩,hz,rfl⟩:=Option.map_eq_some_iff.1 hy
 rw [List.getElem?_zip_eq_some] at hz
 exact ⟨x,t,hz.1,hz.2,rfl⟩
theorem opers_ok {K:List Fun} (hK:∀ F∈K,FunOk P F):OpersOk P K:=fun o a s loc β H S w Wr own0 n0 fr r hh hsl hb hev hok=>by
 have hop:evOp P fr o s=some r→DoneW P o a s loc β H S w Wr own0 n0 fr (fr+stride) (addUp s .tt r.up) r.res:=fun h=>Done.wp (evOp_sound hh (hb _) (Nat.le_refl _) (by unfold stride; omega) (fun x=>evl_rel hsl x) h hok)
 unfold evOper at hev
 split at hev
 ·rename_i c hoc
  split at hev
  ·rename_i fop hcal
   split at hev
   ·rename_i g f caps hfop
    split at hev
    ·rename_i cs hcs
     split at hev
     ·rename_i hsz
      split at hev
      ·rename_i r' hr'
       injection hev with hev
       subst hev
       simp only [G.and_val,Bool.and_eq_true] at hok
       obtain ⟨hg,hrok⟩:=hok
       have hfn:=need_rel hfop hg (evl_rel hsl fop)
       obtain ⟨hcsol,hsz⟩:=and2 hsz
       have hf1:encD s loc (.fn f caps)=.v (.one (.fn f (encC s loc caps))):=by
        show (match (T.fn f caps).solid && ((T.fn f caps).isRow || Nat.beq (T.fn f caps).size 1) with | true=>D.v (encV s loc (.fn f caps)) | false=>.dead)=_
        simp only [T.solid,hcsol,T.isRow,T.size]; rfl
       rw [hf1] at hfn
       have hfn:RelC β H S w (.fn f (encC s loc caps)) (a.eval fop):=hfn
       simp only [RelC] at hfn
       obtain ⟨us,hu,hcaps⟩:=hfn
       obtain ⟨c1,c2,c3⟩:=capList_rel depth caps cs hcs hcsol us.toList hcaps
       have hnl:c.args.toList.length=c.argTypes.toList.length:=beq2 hsz
       have hzl:((c.args.toList.zip c.argTypes.toList).map (fun (x:Operand × TypeId)=>asTy P x.2 (evl s x.1))).length=c.args.size:=by
        rw [List.length_map,List.length_zip,← hnl,Nat.min_self,Array.length_toList]
       have hlow:∀ x:Operand,∀ q∈(evl s x).names,q<fr:=fun x q hq=>by
        refine Classical.byContradiction fun hn=> ?_
        exact evl_clean (hb (q+1)) x q hq ⟨by omega,by omega⟩
       have hcall:=callF_sound (fr:=fr) (vals:=c.args.map a.eval++us) hh hsl hb (args:=(c.args.toList.zip c.argTypes.toList).map (fun (x:Operand × TypeId)=>asTy P x.2 (evl s x.1))++cs)
        (by rw [Array.size_append,Array.size_map,List.length_append,hzl,← Array.length_toList (xs:=us),c1])
        (fun i x hx=>by
         rw [List.getElem?_append] at hx
         split at hx
         ·rename_i hi
          rw [hzl] at hi
          obtain ⟨y,t,h1,h2,rfl⟩:=zip_map_get (fun y t=>asTy P t (evl s y)) _ _ hnl i x hx
          have hv:(c.args.map a.eval++us).getD i undef=a.eval y:=by
           rw [Array.getD_eq_getD_getElem?,Array.getElem?_append_left (by rw [Array.size_map]; exact hi),Array.getElem?_map]
           have:c.args[i]? =some y:=by simpa using h1
           rw [this]; rfl
          rw [hv]
          exact asTy_rel (evl_rel hsl y)
         ·rename_i hi
          rw [hzl] at hi hx
          have hiu:i - c.args.size<us.toList.length:=by rw [c1]; exact (List.getElem?_eq_some_iff.1 hx).1
          have hv:(c.args.map a.eval++us).getD i undef=us.toList[i - c.args.size]:=by
           rw [Array.getD_eq_getD_getElem?,Array.getElem?_append_right (by rw [Array.size_map]; omega),Array.size_map]
           have:us[i - c.args.size]? =some us.toList[i - c.args.size]:=by rw [← Array.getElem?_toList,List.getElem?_eq_getElem hiu]
           rw [this]; rfl
          rw [hv]
          exact c2 _ x _ hx (List.getElem?_eq_getElem hiu))
        (fun x hx q hq=>by
         rcases List.mem_append.1 hx with hx | hx
         ·obtain ⟨⟨y,t⟩,hy,rfl⟩:=List.mem_map.1 hx
          exact hlow y q (asTy_names q hq)
         ·have h1:=c3 x hx q hq
          refine hlow fop q (need_names q ?_)
          rw [hfop]; exact h1) K hK _ hr' hrok
       obtain ⟨hcf,hcalls⟩:=hcall
       intro KK Q hcont
       have hexec:(execOp a.eval o).run P w=.ok (.enter f (c.args.map a.eval++us)) w:=by
        simp [execOp,hoc,resolve,hcal,hu,Deferred.ofValue,invoke,hcf]
       unfold Oper.wp
       rw [hexec]
       rw [Oper.upon_enter]
       refine hcalls.mono ?_
       rintro e w' ⟨v,loc',β',H',S',rfl,h1,h2,h3,h4⟩
       exact hcont v w' β' H' S' loc' h1 h2 h3 h4
      ·cases hev
     ·cases hev
    ·cases hev
   ·cases hev
  ·exact hop hev
 ·exact hop hev
end
end Go.Tm

namespace Go.Tm
open Go.Vm Go.RowKit
set_option linter.unusedVariables false
set_option linter.unusedSimpArgs false
def Sb (w:World) (b o:Nat):Prop:=b<w.heap.size
def wfD:(t:Ty)→t.den→Prop
 | .int k,z=>(Lit.int k z).wf=true
 | .bool,_=>True
 | .str,s=>ByteArray.size s≤Go.maxLen
 | .nat,_=>True
 | .unit,_=>True
 | .prod a b,v=>wfD a v.1∧wfD b v.2
 | .arr n t,f=>∀ i,i<n→wfD t (f i)
 | .fl t,L=>List.length L≤Go.reachBytes∧∀ x∈L,wfD t x
 | .row t,v=>wfD t v
def layFs (P:Program) (f:TypeId→Bool) (g:TypeId→Option Ty):Nat→List Field→Option Nat
 | n,[]=>some n
 | n,x::l=>match g x.type with
  | some ty=>if (Nat.beq x.offset n && (Nat.beq ty.size (P.cellsOf x.type) && f x.type))=true then layFs P f g (n+P.cellsOf x.type) l else none
  | none=>none
def layOk (P:Program):Nat→TypeId→Bool
 | 0,_=>false
 | d+1,t=>match P.underlying t with
  | some (.int _)=>true
  | some .bool=>true
  | some .string=>true
  | some (.slice e)=>layOk P d e && (Nat.blt 0 (P.cellsOf e) && (Nat.blt 0 (P.bytesOf e) && (match tyOf P d e with | some ty=>Nat.beq ty.size (P.cellsOf e) | none=>false)))
  | some (.array n e)=>layOk P d e && ((match tyOf P d e with | some ty=>Nat.beq ty.size (P.cellsOf e) | none=>false) && Nat.beq (P.cellsOf t) (n*P.cellsOf e))
  | some (.struct fs)=>match layFs P (layOk P d) (tyOf P d) 0 fs.toList with
   | some n=>Nat.beq n (P.cellsOf t)
   | none=>false
  | _=>false
def Opens (P:Program) (t:TypeId) (ty:Ty):Prop:=
 ∀ (H:Type) (enc':TypeId × Value→H) (w:World) (n:Nat) (cs:List Value) (x:DataW H × List MemPlace),DataW.trod enc' P w 0 (fun _=>true) true n t cs=some x→(∀ k∈DataW.weights P t x.1,k≤Go.reachBytes)→∃ v:ty.den,wfD ty v∧RelPL (Sb w) w (enc ty v) cs
theorem weights_all {H:Type} {P:Program} {e:TypeId} :∀ {ds:List (DataW H)} {d:DataW H},d∈ds→∀ n∈DataW.weights P e d,n∈DataW.weightsAll P e ds
 | [],_,h,_,_=>by cases h
 | x::l,d,h,n,hn=>by
  rw [DataW.weightsAll]
  cases h with
  | head=>exact List.mem_append_left _ hn
  | tail _ h=>exact List.mem_append_right _ (weights_all h n hn)
theorem relPL_length {S:Nat→Nat→Prop} {w:World} :∀ {cs:List C} {us:List Value},RelPL S w cs us→us.length=cs.length
 | [],us,h=>by simp only [RelPL] at h; simp [h]
 | c::cs,us,h=>by
  simp only [RelPL] at h
  obtain ⟨u,us',rfl,_,h2⟩:=h
  simp [relPL_length h2]
theorem relPL_append {S:Nat→Nat→Prop} {w:World} :∀ {cs ds:List C} {us vs:List Value},RelPL S w cs us→RelPL S w ds vs→RelPL S w (cs++ds) (us++vs)
 | [],ds,us,vs,h,k=>by simp only [RelPL] at h; subst h; exact k
 | c::cs,ds,us,vs,h,k=>by
  simp only [RelPL] at h
  obtain ⟨u,us',rfl,h1,h2⟩:=h
  show RelPL S w (c::(cs++ds)) (u::(us'++vs))
  simp only [RelPL]
  exact ⟨u,us'++vs,rfl,h1,relPL_append h2 k⟩
theorem relAt_append {S:Nat→Nat→Prop} {w:World} :∀ {cs ds:List C} {b o:Nat},RelAt S w cs b o→RelAt S w ds b (o+cs.length)→RelAt S w (cs++ds) b o
 | [],ds,b,o,_,h=>by simpa using h
 | c::cs,ds,b,o,h1,h2=>by
  simp only [RelAt] at h1
  simp only [List.cons_append,RelAt]
  exact ⟨h1.1,h1.2.1,relAt_append h1.2.2 (by simpa [Nat.add_assoc,Nat.add_comm 1] using h2)⟩
theorem relAt_of {w:World} {b:Nat} (hb:b<w.heap.size):∀ {cs:List C} {us:List Value} {o:Nat},RelPL (Sb w) w cs us→(∀ i,i<us.length→w.cell? ⟨b,o+i,none⟩=us[i]?)→RelAt (Sb w) w cs b o
 | [],us,o,_,_=>by simp only [RelAt]
 | c::cs,us,o,h,hc=>by
  simp only [RelPL] at h
  obtain ⟨u,us',rfl,h1,h2⟩:=h
  simp only [RelAt]
  refine ⟨hb,⟨u,by simpa using hc 0 (by simp),h1⟩,relAt_of hb h2 fun i hi=> ?_⟩
  have:=hc (i+1) (by simpa using hi)
  simpa [Nat.add_assoc,Nat.add_comm 1] using this
theorem add_block (a:Addr) (k:Nat):(a.add k).block=a.block:=by unfold Addr.add; split<;>rfl
theorem add_add {a:Addr} (h:a.spot=none) (k j:Nat):(a.add k).add j=⟨a.block,a.off+k+j,none⟩:=by
 cases a
 simp only at h
 subst h
 unfold Addr.add
 split<;>split<;>simp_all
theorem opens_slice {P:Program} {t e:TypeId} {ty:Ty} (ht:P.underlying t=some (.slice e)) (he:Opens P e ty) (hpos:0<P.cellsOf e) (hby:0<P.bytesOf e) (hsz:ty.size=P.cellsOf e):Opens P t (.fl ty):=by
 intro H enc' w n cs x h hz
 rcases DataW.trod_slice ht h with ⟨rfl,_⟩ | ⟨a,len,cap,elems,rest,n,_,rfl,hxe,_,hle,hcap,hlen,hel,_⟩
 ·refine ⟨([]:List ty.den),⟨Nat.zero_le _,fun x hx=>nomatch hx⟩,?_⟩
  show RelPL (Sb w) w [.sl 0 []] _
  rw [RelPL]
  refine ⟨_,_,rfl,?_,by rw [RelPL]⟩
  rw [RelP]
  exact ⟨none,0,rfl,Nat.le_refl _,fun _=>rfl,.inl ⟨rfl,rfl⟩⟩
 ·have hz0:(elems.length+rest.length)*P.bytesOf e≤Go.reachBytes:=hz _ (by rw [hxe]; simp [DataW.weights,ht])
  have hzE:∀ k∈DataW.weightsAll P e (elems.map (·.1)),k≤Go.reachBytes:=fun k hk=>hz k (by
   rw [hxe]
   simp only [DataW.weights,ht]
   exact .tail _ (List.mem_append_left _ hk))
  have hreach:len≤Go.reachBytes:=by
   have h3:elems.length+rest.length≤(elems.length+rest.length)*P.bytesOf e:=Nat.le_mul_of_pos_right _ hby
   omega
  have hsp:0<len→a.spot=none:=by
   intro hi
   have h1:=hel 0 hi
   have h2:elems[0]? =some elems[0]:=List.getElem?_eq_getElem (by omega)
   rw [h2] at h1
   obtain ⟨vs,hv,_⟩:=Option.bind_eq_some_iff.1 h1
   obtain ⟨_,hvl,hcell⟩:=World.cells?_some hv
   have h0:=hcell 0 hpos
   have hv0:vs[0]? =some vs[0]:=List.getElem?_eq_getElem (by omega)
   rw [hv0] at h0
   have e0:(a.add (0*P.cellsOf e)).add 0=a:=by simp [Addr.add]
   rw [e0] at h0
   unfold World.cell? at h0
   split at h0
   ·split at h0
    ·cases h0
    ·rename_i hns
     cases hq:a.spot with
     | none=>rfl
     | some k=>rw [hq] at hns; exact absurd rfl hns
   ·cases h0
  have hone:∀ i,i<len→∃ g:ty.den,wfD ty g∧a.spot=none∧RelAt (Sb w) w (enc ty g) a.block (a.off+i*P.cellsOf e):=by
   intro i hi
   have h1:=hel i hi
   have h2:elems[i]? =some elems[i]:=List.getElem?_eq_getElem (by omega)
   rw [h2] at h1
   obtain ⟨vs,hv,hr⟩:=Option.bind_eq_some_iff.1 h1
   obtain ⟨g,hA,hg⟩:=he H enc' w n vs _ hr (fun k hk=>hzE k (weights_all (List.mem_map_of_mem (List.getElem_mem (by omega))) k hk))
   obtain ⟨_,hvl,hcell⟩:=World.cells?_some hv
   have hb:=World.cells?_block hv hpos
   rw [add_block] at hb
   have hs0:=hsp (by omega)
   refine ⟨g,hA,hs0,relAt_of hb hg fun j hj=> ?_⟩
   have:=hcell j (by omega)
   rw [← this,add_add hs0]
  have hall:∀ k,k≤len→∃ L:List ty.den,L.length=k∧(∀ g∈L,wfD ty g)∧(0<k→a.spot=none)∧RelAt (Sb w) w (L.flatMap (enc ty)) a.block (a.off+(len - k)*P.cellsOf e):=by
   intro k
   induction k with
   | zero=>intro _; exact ⟨[],rfl,by simp,by simp,by simp [RelAt]⟩
   | succ k ih=>
    intro hk
    obtain ⟨L,e1,e2,e3,e4⟩:=ih (by omega)
    obtain ⟨g,g1,g3,g4⟩:=hone (len - (k+1)) (by omega)
    refine ⟨g::L,by simp [e1],fun x hx=> ?_,fun _=>g3,?_⟩
    ·cases hx with
     | head=>exact g1
     | tail _ hx=>exact e2 x hx
    ·rw [List.flatMap_cons]
     refine relAt_append g4 ?_
     rw [enc_len,hsz]
     have:a.off+(len - (k+1))*P.cellsOf e+P.cellsOf e=a.off+(len - k)*P.cellsOf e:=by
      rw [show len - k=(len - (k+1))+1 by omega,Nat.add_mul]; omega
     rw [this]
     exact e4
  obtain ⟨L,e1,e2,e3,e4⟩:=hall len (Nat.le_refl _)
  refine ⟨L,⟨by rw [e1]; exact hreach,e2⟩,?_⟩
  show RelPL (Sb w) w [.sl L.length (L.flatMap (enc ty))] _
  simp only [RelPL,RelP]
  refine ⟨_,_,rfl,⟨some a,cap,by rw [e1],by omega,(fun h=>by cases h),?_⟩,rfl⟩
  by_cases hz:len=0
  ·have:L= []:=List.eq_nil_of_length_eq_zero (by omega)
   subst this
   exact .inl ⟨rfl,rfl⟩
  ·refine .inr ⟨a.block,a.off,?_,by simpa using e4⟩
   have:=e3 (by omega)
   cases a
   simp only at this
   subst this
   rfl
theorem opens_fields {P:Program} {d:Nat} (ih:∀ t ty,tyOf P d t=some ty→layOk P d t=true→Opens P t ty) {H:Type} {enc':TypeId × Value→H} {w:World} {n:Nat} :∀ (fs:List Field) (acc m:Nat) (tl:List Ty) (cs:List Value),
  tysOf (tyOf P d) fs=some tl→layFs P (layOk P d) (tyOf P d) acc fs=some m→cs.length=m→(∀ f∈fs,∃ x,DataW.trod enc' P w 0 (fun _=>true) true n f.type ((cs.drop f.offset).take (P.cellsOf f.type))=some x∧∀ k∈DataW.weights P f.type x.1,k≤Go.reachBytes)→
  ∃ v:(prodOf tl).den,wfD (prodOf tl) v∧RelPL (Sb w) w (enc (prodOf tl) v) (cs.drop acc)
 | [],acc,m,tl,cs,ht,hl,hm,hx=>by
  simp only [tysOf,Option.some.injEq] at ht
  simp only [layFs,Option.some.injEq] at hl
  subst ht; subst hl
  refine ⟨(():Unit),trivial,?_⟩
  show RelPL (Sb w) w [] _
  simp only [RelPL]
  exact List.drop_eq_nil_of_le (by omega)
 | f::fs,acc,m,tl,cs,ht,hl,hm,hx=>by
  unfold tysOf at ht
  split at ht
  ·rename_i t ts h1 h2
   injection ht with ht
   subst ht
   unfold layFs at hl
   rw [h1] at hl
   simp only at hl
   split at hl
   ·rename_i hc
    obtain ⟨c1,hc⟩:=and2 hc
    obtain ⟨c2,c3⟩:=and2 hc
    have c1:=beq2 c1
    have c2:=beq2 c2
    obtain ⟨x,hxx,hxz⟩:=hx f (.head _)
    obtain ⟨v,hv1,hv2⟩:=ih f.type t h1 c3 H enc' w n _ x hxx hxz
    obtain ⟨u,hu1,hu2⟩:=opens_fields ih fs (acc+P.cellsOf f.type) m ts cs h2 hl hm (fun g hg=>hx g (.tail _ hg))
    rw [c1] at hv2
    have hsplit:cs.drop acc=(cs.drop acc).take (P.cellsOf f.type)++cs.drop (acc+P.cellsOf f.type):=by
     rw [← List.drop_drop]; exact (List.take_append_drop _ _).symm
    rw [hsplit]
    cases ts with
    | nil=>
     refine ⟨v,hv1,?_⟩
     have hnil:RelPL (Sb w) w [] (cs.drop (acc+P.cellsOf f.type)):=hu2
     simp only [RelPL] at hnil
     rw [hnil,List.append_nil]
     exact hv2
    | cons t2 ts=>
     exact ⟨(v,u),⟨hv1,hu1⟩,relPL_append hv2 hu2⟩
   ·cases hl
  ·cases ht
theorem opens_ty {P:Program} :∀ (d:Nat) (t:TypeId) (ty:Ty),tyOf P d t=some ty→layOk P d t=true→Opens P t ty
 | 0,t,ty,h,_=>by cases h
 | d+1,t,ty,h,hl=>by
  unfold tyOf at h
  unfold layOk at hl
  split at h
  ·rename_i k hu
   injection h with h
   subst h
   intro H enc' w n cs x hx hz
   obtain ⟨z,rfl,_,hw⟩:=DataW.trod_int hu hx
   exact ⟨z,hw,by show RelPL (Sb w) w [.sc (.int k z)] _; simp only [RelPL,RelP]; exact ⟨_,_,rfl,⟨rfl,rfl⟩,rfl⟩⟩
  ·rename_i hu
   injection h with h
   subst h
   intro H enc' w n cs x hx hz
   obtain ⟨z,rfl,_⟩:=DataW.trod_bool hu hx
   exact ⟨z,trivial,by show RelPL (Sb w) w [.sc (.bool z)] _; simp only [RelPL,RelP]; exact ⟨_,_,rfl,⟨rfl,rfl⟩,rfl⟩⟩
  ·rename_i hu
   injection h with h
   subst h
   intro H enc' w n cs x hx hz
   obtain ⟨z,rfl,_,hw⟩:=DataW.trod_string hu hx
   exact ⟨z,hw,by show RelPL (Sb w) w [.sc (.string z)] _; simp only [RelPL,RelP]; exact ⟨_,_,rfl,⟨rfl,rfl⟩,rfl⟩⟩
  ·rename_i e hu
   obtain ⟨te,hte,rfl⟩:=Option.map_eq_some_iff.1 h
   rw [hu] at hl
   simp only [hte] at hl
   obtain ⟨l1,hl⟩:=and2 hl
   obtain ⟨l2,hl⟩:=and2 hl
   obtain ⟨l4,l3⟩:=and2 hl
   exact opens_slice hu (opens_ty d e te hte l1) (Nat.le_of_ble_eq_true l2) (Nat.le_of_ble_eq_true l4) (beq2 l3)
  ·rename_i m e hu
   obtain ⟨te,hte,rfl⟩:=Option.map_eq_some_iff.1 h
   rw [hu] at hl
   simp only [hte] at hl
   obtain ⟨l1,hl⟩:=and2 hl
   obtain ⟨l2,l3⟩:=and2 hl
   have l2:=beq2 l2
   have l3:=beq2 l3
   intro H enc' w n cs x hx hz
   obtain ⟨xs,n',_,hxe,hlen,hxl,hget⟩:=DataW.trod_array hu hx
   have hzA:∀ k∈DataW.weightsAll P e (xs.map (·.1)),k≤Go.reachBytes:=fun k hk=>hz k (by rw [hxe]; simp only [DataW.weights,hu]; exact hk)
   have hone:∀ i,i<m→∃ v:te.den,wfD te v∧RelPL (Sb w) w (enc te v) ((cs.drop (i*P.cellsOf e)).take (P.cellsOf e)):=fun i hi=>by
    have:=hget i hi
    rw [List.getElem?_eq_getElem (by omega)] at this
    exact opens_ty d e te hte l1 H enc' w n' _ _ this (fun k hk=>hzA k (weights_all (List.mem_map_of_mem (List.getElem_mem (by omega))) k hk))
   have hf:∃ f:Nat→te.den,∀ i,i<m→wfD te (f i)∧RelPL (Sb w) w (enc te (f i)) ((cs.drop (i*P.cellsOf e)).take (P.cellsOf e)):=by
    refine ⟨fun i=>if h:i<m then (hone i h).choose else te.dflt,fun i hi=> ?_⟩
    simp only [hi,dif_pos]
    exact (hone i hi).choose_spec
   obtain ⟨f,hf⟩:=hf
   refine ⟨f,fun i hi=>(hf i hi).1,?_⟩
   have hk:∀ k,k≤m→RelPL (Sb w) w ((List.range k).flatMap fun i=>enc te (f i)) (cs.take (k*P.cellsOf e)):=by
    intro k
    induction k with
    | zero=>intro _; simp [RelPL]
    | succ k ihk=>
     intro hk
     rw [List.range_succ,List.flatMap_append]
     have h1:=ihk (by omega)
     have h2:=(hf k (by omega)).2
     have:cs.take ((k+1)*P.cellsOf e)=cs.take (k*P.cellsOf e)++(cs.drop (k*P.cellsOf e)).take (P.cellsOf e):=by
      rw [Nat.succ_mul,List.take_add]
     rw [this]
     exact relPL_append h1 (by simpa using h2)
   have:=hk m (Nat.le_refl _)
   rw [List.take_of_length_le (by rw [hlen,l3]; exact Nat.le_refl _)] at this
   exact this
  ·rename_i fs hu
   obtain ⟨tl,htl,rfl⟩:=Option.map_eq_some_iff.1 h
   rw [hu] at hl
   simp only at hl
   split at hl
   ·rename_i m hm
    have hl:=beq2 hl
    intro H enc' w n cs x hx hz
    obtain ⟨xs,n',_,hxe,hlen,hxl,hget⟩:=DataW.trod_struct hu hx
    have hzS:∀ k∈DataW.weightsEach P (fs.toList.map (·.type)) (xs.map (·.1)),k≤Go.reachBytes:=fun k hk=>hz k (by rw [hxe]; simp only [DataW.weights,hu]; exact hk)
    obtain ⟨v,h1,h2⟩:=opens_fields (d:=d) (fun t ty h k=>opens_ty d t ty h k) (H:=H) (enc':=enc') (w:=w) (n:=n') fs.toList 0 m tl cs htl hm (by rw [hlen,hl]) (fun f hf=>by
     obtain ⟨i,hi,rfl⟩:=List.mem_iff_getElem.1 hf
     have hi':i<fs.size:=by simpa using hi
     have:=hget i fs[i] (Array.getElem?_eq_getElem hi')
     rw [List.getElem?_eq_getElem (by omega)] at this
     refine ⟨_,by simpa using this,fun k hk=>hzS k (DataW.weights_mem_each (j:=i) (t:=fs[i].type) (d:=(xs[i]'(by omega)).1) (by simp [hi']) (by simp [show i<xs.length by omega]) k (by simpa using hk))⟩)
    rw [List.drop_zero] at h2
    exact ⟨v,h1,h2⟩
   ·cases hl
  ·cases h
theorem relPL_rel {S:Nat→Nat→Prop} {w:World} {β:Nat→Option (Nat × Nat)} {H:List Ob} :∀ {cs:List C} {us:List Value},RelPL S w cs us→RelL β H S w cs us
 | [],us,h=>by simp only [RelPL] at h; subst h; simp only [RelL]
 | c::cs,us,h=>by
  simp only [RelPL] at h
  obtain ⟨u,us',rfl,h1,h2⟩:=h
  simp only [RelL]
  exact ⟨u,us',rfl,RelP.rel c u h1,relPL_rel h2⟩
theorem arg_ty {P:Program} {d:Nat} {t:TypeId} {ty:Ty} (hty:tyOf P (d+1) t=some ty) (hlay:layOk P (d+1) t=true) {H:Type} {enc':TypeId × Value→H} {w:World} {r:Go.Reach} {base:Nat} {v:Value} {dd:DataW H} {p:List MemPlace} (hv:Value.okWide P w r base t v)
  (h:DataW.Trod enc' P w 0 (fun _=>true) true t v dd p) (hz:∀ k∈DataW.weights P t dd,k≤Go.reachBytes):∃ x:ty.den,wfD ty x∧∀ (s:St) (loc:Loc),RelD (fun _=>none) [] (Sb w) w (encD s loc (.pure ty x)) v:=by
 obtain ⟨n,hn⟩:=h
 obtain ⟨x,hw,hx⟩:=opens_ty _ _ _ hty hlay H enc' w n _ _ hn hz
 refine ⟨x,hw,fun s loc=> ?_⟩
 have hone:(∀ cs,v≠ .agg cs)→ty.isRow=false→ty.size=1→RelD (fun _=>none) [] (Sb w) w (encD s loc (.pure ty x)) v:=fun h1 h2 h3=>by
  have hcells:v.cells.toList= [v]:=by cases v<;>first | rfl | exact absurd rfl (h1 _)
  rw [hcells] at hx
  have hl:=enc_len ty x
  rw [h3] at hl
  rw [encD_v rfl (by show (ty.isRow || Nat.beq ty.size 1)=true; rw [h3,h2]; rfl)]
  show RelV _ _ _ _ (encV s loc (.pure ty x)) v
  unfold encV
  rw [show (T.pure ty x).isRow=false from h2]
  simp only
  show RelC _ _ _ _ ((enc ty x).headD .dead) v
  match he:enc ty x,hl with
  | [c],_=>
   rw [he] at hx
   simp only [RelPL] at hx
   obtain ⟨u,us,e1,e2,_⟩:=hx
   injection e1 with e1 _
   subst e1
   exact RelP.rel c v e2
 have hagg:(∃ cs,v=.agg cs)→ty.isRow=true→RelD (fun _=>none) [] (Sb w) w (encD s loc (.pure ty x)) v:=fun ⟨cs,h1⟩ h2=>by
  subst h1
  rw [encD_v rfl (by show (ty.isRow || _)=true; rw [h2]; rfl)]
  show RelV _ _ _ _ (encV s loc (.pure ty x)) _
  unfold encV
  rw [show (T.pure ty x).isRow=true from h2]
  exact ⟨cs,rfl,relPL_rel hx⟩
 unfold tyOf at hty
 split at hty
 ·rename_i k hu
  injection hty with hty
  subst hty
  refine hone (fun cs hcs=> ?_) rfl rfl
  subst hcs
  simp only [Value.okWide,hu,Cell.okWide,Cell.ok] at hv
 ·rename_i hu
  injection hty with hty
  subst hty
  refine hone (fun cs hcs=> ?_) rfl rfl
  subst hcs
  simp only [Value.okWide,hu,Cell.okWide,Cell.ok] at hv
 ·rename_i hu
  injection hty with hty
  subst hty
  refine hone (fun cs hcs=> ?_) rfl rfl
  subst hcs
  simp only [Value.okWide,hu,Cell.okWide,Cell.ok] at hv
 ·rename_i e hu
  obtain ⟨te,_,rfl⟩:=Option.map_eq_some_iff.1 hty
  refine hone (fun cs hcs=> ?_) rfl rfl
  subst hcs
  simp only [Value.okWide,hu,Cell.okWide,Cell.ok] at hv
 ·rename_i m e hu
  obtain ⟨te,_,rfl⟩:=Option.map_eq_some_iff.1 hty
  refine hagg ?_ rfl
  unfold Value.okWide at hv
  rw [hu] at hv
  obtain ⟨cs,h1,_⟩:=hv
  exact ⟨cs,h1⟩
 ·rename_i fs hu
  obtain ⟨tl,_,rfl⟩:=Option.map_eq_some_iff.1 hty
  refine hagg ?_ rfl
  unfold Value.okWide at hv
  rw [hu] at hv
  obtain ⟨cs,h1,_⟩:=hv
  exact ⟨cs,h1⟩
 ·cases hty
theorem calls_law {P:Program} {F:Fun} (hF:FunOk P F) {f:FuncId} (hf:F.e.f=f) (hout:F.e.outs= [.bool]) (haout:F.e.aout= [.pure .bool false]) (hhout:F.e.hout= []) {w:World} {vals:Array Value} (x:HL F.e.ins) (s0:St) (hst:startSt F.e (HL.leaves F.e.ins x)=some s0) (hnone:F.e.hin= [])
  (hok:(F.fn x).1=true) (hres:HL.leaves F.e.outs (F.fn x).2= [⟨.bool,true⟩]) (hsz:vals.size=F.e.ain.length) (hvals:∀ t,t<F.e.ain.length→RelD (fun _=>none) [] (Sb w) w (encD s0 (fun _=>(0,0)) (s0.slot t)) (vals.getD t undef)):
  Calls P f vals w fun e w'=>e=.returned (.bool true)∧Go.RowKit.Below w.heap.size w w':=by
 subst hf
 have hp:plugTs F.e.aout (HL.leaves F.e.outs (F.fn x).2)=some ([.pure .bool true],[]):=by rw [haout,hres]; rfl
 have hq:plugRs F.e.hout []=some ([],[]):=by rw [hhout]; rfl
 obtain ⟨_,hcalls⟩:=hF.runs x s0 _ _ _ hst hok hp hq
 have hheap:Heap s0 (fun _=>(0,0)) (fun _=>none) [] (Sb w) w (fun b=>w.heap.size≤b) (fun _=>False) 0:=by
  obtain ⟨ts0,l0,rs0,t1,t2,t3,t4,t5,t6⟩:=startSt_some hst
  have hrs:rs0= []:=by
   rw [hnone] at t2
   simp only [plugRs,Option.some.injEq,Prod.mk.injEq] at t2
   exact t2.1.symm
  subst hrs
  have hdead:∀ q,s0.root q=⟨.ff,.gone⟩:=fun q=>by rw [t6]; rfl
  exact ⟨⟨fun id sz ver cs fz h=>by simp at h,fun id id' _ _ _ _ _ _ _ _ _ _ _ h=>by simp at h,fun _ _ hh=>hh,fun id es h=>by simp at h,fun id id' _ _ _ _ _ h=>by simp at h⟩,(fun r hg=>by rw [hdead] at hg; cases hg),(fun r r' h=>by rw [hdead] at h; cases h),(fun r h=>by rw [hdead] at h; cases h),Nat.le_refl _,fun b hb=>hb⟩
 refine (hcalls _ _ _ _ w _ _ 0 vals hheap hsz hvals).mono ?_
 rintro e w' ⟨v,loc',β',H',S',rfl,h1,h2,h3,h4⟩
 refine ⟨?_,h3.evo.os,h3.evo.tape,h3.evo.output,h3.evo.size,fun k hk=>h3.evo.block k hk (by omega)⟩
 have:RelD β' H' S' w' (vBool true) v:=h2
 rw [rel_bool this]
end Go.Tm
namespace Go.Tm
open Go.Vm
theorem oks_nil {P:Program} :∀ F∈([]:List Fun),FunOk P F:=fun _ h=>nomatch h
theorem oks_cons {P:Program} {F:Fun} {K:List Fun} (h:FunOk P F) (hs:∀ G∈K,FunOk P G):∀ G∈F::K,FunOk P G:=fun G hG=>by
 cases hG with
 | head=>exact h
 | tail _ hG=>exact hs G hG
end Go.Tm

namespace Go.Tm
theorem loopR_rule {σ ρ:Type} {d:ρ} {step:σ→Bool × Bool × σ × ρ} (I:σ→Prop) (μ:σ→Nat) (Q:ρ→Prop)
  (h:∀ x,I x→(∃ y r,step x=(true,true,y,r)∧I y∧μ y<μ x)∨(∃ y r,step x=(true,false,y,r)∧Q r)):∀ x,I x→(loopR d step x).1=true∧Q (loopR d step x).2:=by
 have key:∀ n x,μ x≤n→I x→∃ m r,iterN step m x=some r∧Q r:=by
  intro n
  induction n with
  | zero=>
   intro x hx hI
   rcases h x hI with ⟨y,r,h1,h2,h3⟩ | ⟨y,r,h1,h2⟩
   ·omega
   ·exact ⟨1,r,by simp only [iterN,h1],h2⟩
  | succ n ih=>
   intro x hx hI
   rcases h x hI with ⟨y,r,h1,h2,h3⟩ | ⟨y,r,h1,h2⟩
   ·obtain ⟨m,r',k1,k2⟩:=ih y (by omega) h2
    exact ⟨m+1,r',by simp only [iterN,h1]; exact k1,k2⟩
   ·exact ⟨1,r,by simp only [iterN,h1],h2⟩
 intro x hI
 obtain ⟨m,r,h1,h2⟩:=key (μ x) x (Nat.le_refl _) hI
 rw [loopR_of (d:=d) h1]
 exact ⟨rfl,h2⟩
theorem loopR_by {σ ρ:Type} {d:ρ} {step:σ→Bool × Bool × σ × ρ} (I:σ→Prop) (μ:σ→Nat) (Q:ρ→Prop) (x:σ) (hx:I x)
  (h:∀ x,I x→(step x).1=true∧((step x).2.1=true→I (step x).2.2.1∧μ (step x).2.2.1<μ x)∧((step x).2.1=false→Q (step x).2.2.2)):(loopR d step x).1=true∧Q (loopR d step x).2:=by
 refine loopR_rule I μ Q (fun y hy=> ?_) x hx
 obtain ⟨h1,h2,h3⟩:=h y hy
 generalize step y=z at h1 h2 h3
 obtain ⟨a,b,c,e⟩:=z
 simp only at h1 h2 h3
 subst h1
 cases b with
 | true=>exact .inl ⟨c,e,rfl,h2 rfl⟩
 | false=>exact .inr ⟨c,e,rfl,h3 rfl⟩
theorem loopR_eq {σ ρ:Type} {d:ρ} {step:σ→Bool × Bool × σ × ρ} (I:σ→Prop) (μ:σ→Nat) (f:σ→ρ)
  (h:∀ x,I x→(∃ y r,step x=(true,true,y,r)∧I y∧μ y<μ x∧f y=f x)∨(∃ y,step x=(true,false,y,f x))):∀ x,I x→loopR d step x=(true,f x):=by
 intro x hI
 obtain ⟨h1,h2⟩:=loopR_rule (d:=d) (step:=step) (fun y=>I y∧f y=f x) μ (fun r=>r=f x) (fun y ⟨hy,he⟩=>by
  rcases h y hy with ⟨z,r,k1,k2,k3,k4⟩ | ⟨z,k1⟩
  ·exact .inl ⟨z,r,k1,⟨k2,k4.trans he⟩,k3⟩
  ·exact .inr ⟨z,f y,k1,he⟩) x ⟨hI,rfl⟩
 generalize loopR d step x=z at h1 h2
 obtain ⟨a,b⟩:=z
 simp only at h1 h2
 rw [h1,h2]
theorem wrap_i64 {x:Int} (h0: -9223372036854775808≤x) (h1:x≤9223372036854775807):IntKind.i64.wrap x=x:=by
 unfold IntKind.wrap
 simp [IntKind.bits,IntKind.signed]
 omega
end Go.Tm

namespace Go.Tm
open Go.Vm
set_option linter.unusedVariables false
set_option linter.unusedSimpArgs false
def cloneE (f:FuncId) (t:Ty) (x:T):Ent:=⟨f,[],[x],[(0,.arr t lNil false)],[.own 0 t.size],[]⟩
def cloneF (f:FuncId) (t:Ty) (k:Nat):Fun:=⟨cloneE f t (.pure (.fl t) lNil),fun (x:HL [.fl t])=>(nFits (lLen x.1) k,(x.1,()))⟩
theorem clone_ok {P:Program} {f:FuncId} {fn:Func} {c:Code} {t:Ty} {k:Nat} (hK:OpersOk P []) (hcall:∀ (vals:Array Value) (w:World),(callFunc f vals).run P w=.ok (.enter f vals) w) (hf:P.funcs[f]? =some fn) (hbody:fn.body=some c)
  (hg:evFun P [] [] fn c (cloneE f t (.pure (.fl t) lNil))=fun (x:HL [.fl t])=>(bAnd (nLt (nLit 0) (lLen x.1)) (nFits (nAdd (lLen (t:=t) lNil) (lLen x.1)) k),((lApp lNil x.1:(Ty.fl t).den),())))
  (h1:evFun P [] [] fn c (cloneE f t (.cst (.slice none 0 0)))=fun (x:HL [])=>(bLit true,((lNil:(Ty.fl t).den),())))
  (h2:∀ a n,evFun P [] [] fn c (cloneE f t (.cst (.slice (some a) 0 n)))=fun (x:HL [])=>(bLit true,((lNil:(Ty.fl t).den),()))):FunOk P (cloneF f t k) where
 call:=hcall
 runs:=fun x s0 res l1 hs hst hok hres hhs=>by
  have hfg:=fun {F:Fun} (he:F.e.f=f) (hF:∀ x,(F.fn x).1=true→F.fn x=evFun P [] [] fn c F.e x)=>fun_ok (F:=F) hK (by rw [he]; exact hcall) (by rw [he]; exact hf) hbody hF
  change HL [.fl t] at x
  obtain ⟨L,u⟩:=x
  cases L with
  | cons a L=>
   have hfo:FunOk P ⟨cloneE f t (.pure (.fl t) lNil),fun (x:HL [.fl t])=>(bAnd (nLt (nLit 0) (lLen x.1)) (nFits (lLen x.1) k),(x.1,()))⟩:=hfg rfl (fun x _=>by
    rw [hg]
    show (_,_)=(_,_)
    simp only [nAdd,lLen,lApp,lNil,List.length_nil,Nat.zero_add,List.nil_append])
   exact hfo.runs (a::L,u) s0 res l1 hs hst (by
    have hok:nFits (lLen (t:=t) (a::L)) k=true:=hok
    show bAnd (nLt (nLit 0) (lLen (t:=t) (a::L))) (nFits (lLen (t:=t) (a::L)) k)=true
    rw [hok]
    simp [bAnd,nLt,nLit,lLen]) hres hhs
  | nil=>
   have hst':s0= {sl:=(List.range 1).zip [T.pure (.fl t) []],hp:= [],nx:=0} :=by
    have:startSt (cloneE f t (.pure (.fl t) lNil)) (HL.leaves [.fl t] (([]:List t.den),u))=some {sl:=(List.range 1).zip [T.pure (.fl t) []],hp:= [],nx:=0} :=by
     simp only [startSt,cloneE,plugTs,HL.leaves,T.plug,dif_pos,plugRs,kept,castD]
     rfl
    have h3:startSt (cloneE f t (.pure (.fl t) lNil)) (HL.leaves [.fl t] (([]:List t.den),u))=some s0:=hst
    rw [this] at h3
    injection h3 with h3
    exact h3.symm
   have key:∀ v:Value,(∃ a n,v=.slice a 0 n∧(a=none→n=0))→entOk (cloneE f t (.pure (.fl t) lNil))=true∧∀ loc β H S w Wr own0 n0 (vals:Array Value),Heap s0 loc β H S w Wr own0 n0→vals.size=1→vals.getD 0 undef=v→
     Calls P f vals w fun e w'=>∃ v loc' β' H' S',e=.returned v∧Heap (endSt (cloneE f t (.pure (.fl t) lNil)) s0 hs) loc' β' H' S' w' Wr own0 n0∧RelD β' H' S' w' (encD (endSt (cloneE f t (.pure (.fl t) lNil)) s0 hs) loc' (asRes res)) v∧Gone Wr own0 n0 β H S w β' H' S' w'∧
      Fol s0 loc (endSt (cloneE f t (.pure (.fl t) lNil)) s0 hs) loc' 0:=by
    rintro v ⟨a,n,rfl,hn⟩
    have hev:evFun P [] [] fn c (cloneE f t (.cst (.slice a 0 n)))=fun (x:HL [])=>(bLit true,((lNil:(Ty.fl t).den),())):=by
     cases a with
     | none=>rw [hn rfl]; exact h1
     | some a=>exact h2 a n
    have hfo:FunOk P ⟨cloneE f t (.cst (.slice a 0 n)),fun (x:HL [])=>(bLit true,((lNil:(Ty.fl t).den),()))⟩:=hfg rfl (fun x _=>by rw [hev]; rfl)
    obtain ⟨k1,k2⟩:=hfo.runs () {sl:=(List.range 1).zip [T.cst (.slice a 0 n)],hp:= [],nx:=0} res l1 hs (by rfl) rfl hres hhs
    refine ⟨k1,fun loc β H S w Wr own0 n0 vals hheap hsz hv=> ?_⟩
    have hroot:∀ q,(({sl:=(List.range 1).zip [T.cst (.slice a 0 n)],hp:= [],nx:=0} :St).root q)=s0.root q:=fun q=>by rw [hst']; rfl
    have:=k2 loc β H S w Wr own0 n0 vals (Heap.congr (fun q=>by rw [hroot]; exact HE.like.rfl _) hheap) hsz (fun i hi=>by
     have hi0:i=0:=by
      have:i<1:=hi
      omega
     subst hi0
     rw [hv]
     show RelD β H S w (encD _ loc (.cst (.slice a 0 n))) _
     rw [encD_cst]
     exact RelD.lit _)
    refine this.mono ?_
    rintro e w' ⟨v,loc',β',H',S',he,e1,e2,e3,e4⟩
    refine ⟨v,loc',β',H',S',he,e1,e2,e3,fun r hr=>by omega⟩
   refine ⟨(key (.slice none 0 0) ⟨_,_,rfl,fun _=>rfl⟩).1,fun loc β H S w Wr own0 n0 vals hheap hsz hslots=> ?_⟩
   have h0:=hslots 0 (show (0:Nat)<1 from Nat.zero_lt_one)
   have hs0:s0.slot 0=.pure (.fl t) []:=by rw [hst']; rfl
   rw [hs0] at h0
   have h0:RelC β H S w (.sl 0 []) (vals.getD 0 undef):=h0
   simp only [RelC,RelP] at h0
   obtain ⟨a,cap,hv,_,hn,_⟩:=h0
   exact (key _ ⟨a,cap,rfl,hn⟩).2 loc β H S w Wr own0 n0 vals hheap hsz hv
end Go.Tm

namespace Go.Tm
open Go.Vm
set_option linter.unusedVariables false
set_option linter.unusedSimpArgs false
open Classical in
noncomputable def limR {α ρ:Type} (d:ρ) (F:Nat→α→Bool × ρ) (x:α):Bool × ρ:=
 if h:∃ r n,∀ m,n≤m→F m x=(true,r) then (true,h.choose) else (false,d)
theorem limR_of {α ρ:Type} {d:ρ} {F:Nat→α→Bool × ρ} {x:α} {r:ρ} (n:Nat) (h:∀ m,n≤m→F m x=(true,r)):limR d F x=(true,r):=by
 unfold limR
 have hex:∃ r n,∀ m,n≤m→F m x=(true,r):=⟨r,n,h⟩
 rw [dif_pos hex]
 obtain ⟨k,hk⟩:=hex.choose_spec
 have h1:=hk (max n k) (Nat.le_max_right _ _)
 rw [h (max n k) (Nat.le_max_left _ _)] at h1
 injection h1 with _ h1
 rw [h1]
theorem limR_at {α ρ:Type} {d:ρ} {F:Nat→α→Bool × ρ} {x:α} (h:(limR d F x).1=true):∃ n,F n x=limR d F x:=by
 unfold limR at h ⊢
 split
 ·rename_i hex
  obtain ⟨n,hn⟩:=hex.choose_spec
  exact ⟨n,hn n (Nat.le_refl _)⟩
 ·rename_i hex; rw [dif_neg hex] at h; cases h
def recN {α ρ:Type} (d:ρ) (step:(α→Bool × ρ)→α→Bool × ρ):Nat→α→Bool × ρ
 | 0=>fun _=>(false,d)
 | n+1=>step (recN d step n)
noncomputable def recF (e:Ent) (step:(HL e.ins→Bool × HL e.outs)→HL e.ins→Bool × HL e.outs):HL e.ins→Bool × HL e.outs:=limR (HL.dflt e.outs) (recN (HL.dflt e.outs) step)
theorem never_ok {P:Program} {e:Ent} {d:HL e.outs} (hcall:∀ (vals:Array Value) (w:World),(callFunc e.f vals).run P w=.ok (.enter e.f vals) w):FunOk P ⟨e,fun _=>(false,d)⟩ where
 call:=hcall
 runs:=fun x s0 res l1 hs _ h=>by cases h
theorem lim_ok {P:Program} {e:Ent} {F:Nat→HL e.ins→Bool × HL e.outs} {d:HL e.outs} (hcall:∀ (vals:Array Value) (w:World),(callFunc e.f vals).run P w=.ok (.enter e.f vals) w) (h:∀ n,FunOk P ⟨e,F n⟩):FunOk P ⟨e,limR d F⟩ where
 call:=hcall
 runs:=fun x s0 res l1 hs h0 h1 h2 h3=>by
  obtain ⟨n,hn⟩:=limR_at (d:=d) (F:=F) (x:=x) h1
  exact (h n).runs x s0 res l1 hs h0 (by show (F n x).1=true; rw [hn]; exact h1) (by show plugTs e.aout (HL.leaves e.outs (F n x).2)=_; rw [hn]; exact h2) h3
theorem rec_ok {P:Program} {e:Ent} {step:(HL e.ins→Bool × HL e.outs)→HL e.ins→Bool × HL e.outs} (hcall:∀ (vals:Array Value) (w:World),(callFunc e.f vals).run P w=.ok (.enter e.f vals) w) (h:∀ g,FunOk P ⟨e,g⟩→FunOk P ⟨e,step g⟩):FunOk P ⟨e,recF e step⟩:=
 lim_ok hcall fun n=>by
  induction n with
  | zero=>exact never_ok hcall
  | succ n ih=>exact h _ ih
theorem recN_by {α ρ:Type} {d:ρ} {step:(α→Bool × ρ)→α→Bool × ρ} (I:α→Prop) (μ:α→Nat) (spec:α→ρ)
  (h:∀ g x,I x→(∀ y,I y→μ y<μ x→g y=(true,spec y))→step g x=(true,spec x)):∀ n x,I x→μ x<n→recN d step n x=(true,spec x)
 | 0,x,_,hn=>by omega
 | n+1,x,hI,hn=>h _ x hI fun y hy hlt=>recN_by I μ spec h n y hy (by omega)
theorem recF_by {e:Ent} {step:(HL e.ins→Bool × HL e.outs)→HL e.ins→Bool × HL e.outs} (I:HL e.ins→Prop) (μ:HL e.ins→Nat) (spec:HL e.ins→HL e.outs)
  (h:∀ g x,I x→(∀ y,I y→μ y<μ x→g y=(true,spec y))→step g x=(true,spec x)) (x:HL e.ins) (hx:I x):recF e step x=(true,spec x):=
 limR_of (μ x+1) fun m hm=>recN_by I μ spec h m x hx (by omega)
theorem recF_rel {e:Ent} {step:(HL e.ins→Bool × HL e.outs)→HL e.ins→Bool × HL e.outs} (I:HL e.ins→Prop) (μ:HL e.ins→Nat) (P:HL e.ins→HL e.outs→Prop) (huniq:∀ x v w,I x→P x v→P x w→v=w)
  (h:∀ g x,I x→(∀ y,I y→μ y<μ x→(g y).1=true∧P y (g y).2)→(step g x).1=true∧P x (step g x).2) (x:HL e.ins) (hx:I x):(recF e step x).1=true∧P x (recF e step x).2:=by
 have key:∀ n x,I x→μ x<n→(recN (HL.dflt e.outs) step n x).1=true∧P x (recN (HL.dflt e.outs) step n x).2:=by
  intro n
  induction n with
  | zero=>intro x _ hn; omega
  | succ n ih=>exact fun x hI hn=>h _ x hI fun y hy hlt=>ih y hy (by omega)
 obtain ⟨h1,h2⟩:=key (μ x+1) x hx (by omega)
 have:recF e step x=(true,(recN (HL.dflt e.outs) step (μ x+1) x).2):=limR_of (μ x+1) fun m hm=>by
  obtain ⟨k1,k2⟩:=key m x hx (by omega)
  exact Prod.ext k1 (huniq x _ _ hx k2 h2)
 rw [this]
 exact ⟨rfl,h2⟩
end Go.Tm

namespace Go.Tm
open Go.Vm
set_option linter.unusedVariables false
set_option linter.unusedSimpArgs false
section
variable {P:Program} {s:St} {loc:Loc} {β β':Nat→Option (Nat × Nat)} {H:List Ob} {S:Nat→Nat→Prop} {w w':World} {Wr:Nat→Prop} {own0:Nat→Prop} {n0 n:Nat}
theorem push_room (hh:Heap s loc β H S w Wr own0 n0) (hb:Below s n) {t:Ty} (ht:0<t.size) (k1:HRel β' (H++ [.cells t.size 1 [] false]) S w' Wr) (k2:Ext β H S β' (H++ [.cells t.size 1 [] false]) S) (hv:Evo Wr S w w'):
  Heap (s.keep n .tt (.arr t lNil false)) (setLoc loc n (H.length,1)) β' (H++ [.cells t.size 1 [] false]) S w' Wr own0 n0∧Gone Wr own0 n0 β H S w β' (H++ [.cells t.size 1 [] false]) S w'∧Fol s loc (s.keep n .tt (.arr t lNil false)) (setLoc loc n (H.length,1)) n:=by
 have hroot:=root_keep s n .tt (.arr t lNil false)
 have hlow:∀ q,q≠n→(s.keep n .tt (.arr t lNil false)).root q=s.root q:=fun q hq=>by rw [hroot q,if_neg (fun h=>hq h.symm)]
 have hself:(s.keep n .tt (.arr t lNil false)).root n=⟨.tt,.arr t lNil false⟩:=by rw [hroot n,if_pos rfl]
 have hfo:Follow s loc (s.keep n .tt (.arr t lNil false)) (setLoc loc n (H.length,1)) n (n+1):=fun q hq hl=>by
  have hne:q≠n:=fun he=>hq (by omega)
  rw [hlow q hne] at hl ⊢
  exact ⟨hl,setLoc_ne _ _ hne,sameRt.refl (live_iff.1 hl).2⟩
 have hold:∀ q,(s.root q).live=true→(loc q).1<H.length:=fun q hl=>(root_lt hh hl)
 refine ⟨Heap.next hh k1 hv.size (by rw [List.length_append]; have:=hh.len; omega) hfo (hb _) (fun q=>q=n) (fun q hl hq=>⟨fun hk=>hq (by omega),hlow q hq,?_⟩) (fun q hl hq=> ?_),⟨k2,hv,fun _ _ h=>.inl h,fun id hid ho=> ?_⟩,hfo.fol (Nat.le_refl _)⟩
 ·rw [hlow q hq] at hl
  rw [List.getElem?_append_left (hold q hl)]
 ·subst hq
  refine ⟨fun _=> ?_,.inr (by rw [setLoc_self]; exact hh.len),fun q' hl' he=> ?_⟩
  ·rw [hself,setLoc_self]
   exact ⟨Nat.one_ne_zero,ht,[],by simp,WkL.refl _⟩
  ·by_cases hne:q'=q
   ·exact hne
   ·rw [setLoc_self,setLoc_ne _ _ hne] at he
    rw [hlow q' hne] at hl'
    have:=hold q' hl'
    omega
 ·rw [List.getElem?_append_left (by have:=hh.len; omega)]
end
def growE (f:FuncId) (t:Ty) (z:(Ty.int .i64).den):Ent:=⟨f,[],[.cst (.slice none 0 0),.pure (.int .i64) z],[(0,.arr t lNil false)],[.own 0 t.size],[]⟩
def growF (f:FuncId) (t:Ty) (k:Nat):Fun:=⟨growE f t (Ty.dflt _),fun (x:HL [.int .i64])=>(bAnd (iNonneg x.1) (nFits (nOfI x.1) k),((lNil:(Ty.fl t).den),()))⟩
def Room (sz:Nat) (w:World) (e:Ending) (w':World):Prop:=(e=.returned (.slice none 0 0)∧w'=w)∨
 (∃ (arr:Array Value) (cap:Nat) (ty:TypeId),e=.returned (.slice (some ⟨w.heap.size,0,none⟩) 0 cap)∧w'=w.drew.alloc (.cells arr ty)∧cap*sz≤arr.size)
def kindOk (P:Program) (e:TypeId) (sz k:Nat):Bool:=match P.info? e with
 | some i=>match i.zero with
  | some z=>Nat.beq z.cells.size sz && (Nat.beq i.size sz && Nat.beq i.bytes k)
  | none=>false
 | none=>false
theorem kindOk_some {P:Program} {e:TypeId} {sz k:Nat} (h:kindOk P e sz k=true):∃ i z,P.info? e=some i∧i.zero=some z∧z.cells.size=sz∧i.size=sz∧i.bytes=k:=by
 unfold kindOk at h
 split at h
 ·rename_i i hi
  split at h
  ·rename_i z hz
   simp only [Bool.and_eq_true] at h
   exact ⟨i,z,hi,hz,Nat.eq_of_beq_eq_true h.1,Nat.eq_of_beq_eq_true h.2.1,Nat.eq_of_beq_eq_true h.2.2⟩
  ·cases h
 ·cases h
theorem grow_ok {P:Program} {f:FuncId} {t:Ty} {k:Nat} (ht:0<t.size) (hcall:∀ (vals:Array Value) (w:World),(callFunc f vals).run P w=.ok (.enter f vals) w)
  (hrun:∀ (n:Nat) (w:World),n*k≤140737488355328→Calls P f #[.slice none 0 0,.int .i64 (n:Int)] w fun e w'=>Room t.size w e w'):FunOk P (growF f t k) where
 call:=hcall
 runs:=fun x s0 res l1 hs hst hok hres hhs=>by
  change HL [.int .i64] at x
  obtain ⟨z,u⟩:=x
  have h1:startSt (growE f t (Ty.dflt _)) (HL.leaves [.int .i64] (z,u))=some {sl:=(List.range 2).zip [T.cst (.slice none 0 0),T.pure (.int .i64) z],hp:= [],nx:=0} :=rfl
  have h2:startSt (growE f t (Ty.dflt _)) (HL.leaves [.int .i64] (z,u))=some s0:=hst
  rw [h1] at h2
  injection h2 with h2
  subst h2
  have hres:some ([T.own 0 t.size],[(⟨.fl t,lNil⟩:Leaf)])=some (res,l1):=hres
  simp only [Option.some.injEq,Prod.mk.injEq] at hres
  obtain ⟨rfl,rfl⟩:=hres
  have hp1:plugRs [(0,.arr t lNil false)] [(⟨.fl t,lNil⟩:Leaf)]=some ([(0,.arr t lNil false)],[]):=by
   simp only [plugRs,Rt.plug,dif_pos,castD]
  have hhs:plugRs [(0,.arr t lNil false)] [(⟨.fl t,lNil⟩:Leaf)]=some (hs,[]):=hhs
  rw [hp1] at hhs
  simp only [Option.some.injEq,Prod.mk.injEq,and_true] at hhs
  subst hhs
  refine ⟨rfl,fun loc β H S w Wr own0 n0 vals hheap hsz hslots=> ?_⟩
  have hok:bAnd (iNonneg z) (nFits (nOfI z) k)=true:=hok
  have hok:(decide ((0:Int)≤z) && decide (Int.toNat z*k≤140737488355328))=true:=hok
  rw [Bool.and_eq_true,decide_eq_true_eq,decide_eq_true_eq] at hok
  obtain ⟨g1,g2⟩:=hok
  obtain ⟨n,rfl⟩:∃ n:Nat,z=(n:Int):=⟨Int.toNat z,(Int.toNat_of_nonneg g1).symm⟩
  rw [Int.toNat_natCast] at g2
  have h0:=hslots 0 (show (0:Nat)<2 by omega)
  have h1:=hslots 1 (show (1:Nat)<2 by omega)
  have h0:RelC β H S w (.sc (.slice none 0 0)) (vals.getD 0 undef):=h0
  have h1:RelC β H S w (.sc (.int .i64 (n:Int))) (vals.getD 1 undef):=h1
  simp only [RelC,RelP] at h0 h1
  have hvals:vals= #[.slice none 0 0,.int .i64 (n:Int)]:=by
   have hsz:vals.size=2:=hsz
   apply Array.ext (by rw [hsz]; rfl)
   intro i hi1 hi2
   have:i=0∨i=1:=by omega
   rcases this with rfl | rfl
   ·rw [Array.getD_eq_getD_getElem?,Array.getElem?_eq_getElem hi1] at h0; exact h0.1
   ·rw [Array.getD_eq_getD_getElem?,Array.getElem?_eq_getElem hi1] at h1; exact h1.1
  rw [hvals]
  have hbel:Below {sl:=(List.range 2).zip [T.cst (.slice none 0 0),T.pure (.int .i64) ((n:Int):(Ty.int .i64).den)],hp:= [],nx:=0} 0:=fun hi=>by
   refine ⟨fun t' r hr hk=> ?_,fun r h1 h2=>rfl,fun r ty x hx q hq hk=> ?_⟩
   ·have hn:(St.slot {sl:=(List.range 2).zip [T.cst (.slice none 0 0),T.pure (.int .i64) ((n:Int):(Ty.int .i64).den)],hp:= [],nx:=0} t').names= []:=by
     match t' with
     | 0=>rfl
     | 1=>rfl
     | k+2=>rfl
    rw [hn] at hr
    cases hr
   ·have hx:(St.root {sl:=(List.range 2).zip [T.cst (.slice none 0 0),T.pure (.int .i64) ((n:Int):(Ty.int .i64).den)],hp:= [],nx:=0} r).rt=.var ty x:=hx
    cases hx
  have fin:∀ (β':Nat→Option (Nat × Nat)) (w':World) (v:Value),HRel β' (H++ [.cells t.size 1 [] false]) S w' Wr→Ext β H S β' (H++ [.cells t.size 1 [] false]) S→Evo Wr S w w'→RelC β' (H++ [.cells t.size 1 [] false]) S w' (.ar H.length 1 0 0) v→
    ∃ v' loc' β' H' S',Ending.returned v=.returned v'∧Heap (⟨[],[(0,⟨.tt,.arr t lNil false⟩)],0⟩:St) loc' β' H' S' w' Wr own0 n0∧RelD β' H' S' w' (encD (⟨[],[(0,⟨.tt,.arr t lNil false⟩)],0⟩:St) loc' (T.own 0 t.size)) v'∧Gone Wr own0 n0 β H S w β' H' S' w'∧
     ∀ r,r<0→((⟨[],[(0,⟨.tt,.arr t lNil false⟩)],0⟩:St).root r).live=true→(({sl:=(List.range 2).zip [T.cst (.slice none 0 0),T.pure (.int .i64) ((n:Int):(Ty.int .i64).den)],hp:= [],nx:=0} :St).root r).live=true∧loc' r=loc r∧sameRt (({sl:=(List.range 2).zip [T.cst (.slice none 0 0),T.pure (.int .i64) ((n:Int):(Ty.int .i64).den)],hp:= [],nx:=0} :St).root r).rt ((⟨[],[(0,⟨.tt,.arr t lNil false⟩)],0⟩:St).root r).rt:=fun β' w' v r1 r2 r3 r4=>by
   obtain ⟨k1,k2,k3⟩:=push_room hheap hbel ht r1 r2 r3
   refine ⟨v,_,_,_,_,rfl,Heap.congr (s:=({sl:=(List.range 2).zip [T.cst (.slice none 0 0),T.pure (.int .i64) ((n:Int):(Ty.int .i64).den)],hp:= [],nx:=0} :St).keep 0 .tt (.arr t lNil false)) (fun r=>HE.like.rfl _) k1,?_,k2,fun r hr=>by omega⟩
   rw [encD_own (g:=.tt) (t:=t) (L:=lNil) (fz:=false) rfl rfl,setLoc_self]
   exact r4
  refine (hrun n w g2).mono ?_
  rintro e w' (⟨rfl,rfl⟩ | ⟨arr,cap,ty,rfl,rfl,hcap⟩)
  ·exact fin _ _ _ (hheap.heap.allocNil t.size 1 false ht) (ext_push _ _ _ _ _) (Evo.refl _ _ _) (relAr_nil none)
  ·have ha:=(hheap.heap.drew).alloc (hheap.fresh w.heap.size (Nat.le_refl _)) (cs:= []) (us:= []) (by first | exact rfl | trivial | (simp only [RelL])) arr.toList ty t.size 1 false ht (fun _ c hc=>by cases hc)
   rw [List.nil_append,Array.toArray_toList] at ha
   refine fin _ _ _ ha (ext_push _ _ _ _ _) ((Evo.drew (Wr:=Wr) (S:=S) w).trans (Evo.alloc w.drew _ hheap.heap.imm) (fun _ _ hs=>hs)) ?_
   exact relAr_new (b:=w.heap.size) (heap_alloc_new w.drew _) (Nat.zero_le _) (by simp) hcap (by simp)
end Go.Tm

namespace Go.Tm
open Go.Vm
set_option linter.unusedVariables false
set_option linter.unusedSimpArgs false
section
variable {P:Program}
theorem wp_copy_runI (w:World) {o:Oper} {a:Act} {K:Act→World→Prop} {Q:Exit→Act→World→Prop} (d s:Operand) (t t':TypeId)
  (ho:o.op=.call {callee:=.builtin .copy,args:= #[d,s],argTypes:= #[t,t']}) (v u:Value) (hd:a.eval d=v) (hs:a.eval s=u) {v':Value} {w':World}
  (hr:(Builtin.copy_ #[t,t'] o.type #[v,u]).run P w=.ok v' w') (h:K (a.put o.dst v') w'):o.wp P a w K Q:=by
 unfold Oper.wp execOp
 simp only [ho,resolve,invoke,builtin,Sem.run_bind,Sem.run_pure,Result.andThen_ok,List.map_toArray,List.map_cons,List.map_nil,hd,hs,hr]
 exact h
theorem wpList_copy_runI (w:World) {ops:Array Oper} {rest:List Oper} {o:Oper} {a:Act} {Q:Exit→Act→World→Prop} (hgd:o.guard=none) (d s:Operand) (t t':TypeId)
  (ho:o.op=.call {callee:=.builtin .copy,args:= #[d,s],argTypes:= #[t,t']}) (v u:Value) (hd:a.eval d=v) (hs:a.eval s=u) {v':Value} {w':World}
  (hr:(Builtin.copy_ #[t,t'] o.type #[v,u]).run P w=.ok v' w') (h:wpList P ops Q rest (a.put o.dst v') w'):wpList P ops Q (o::rest) a w:=
 wpList_plain hgd fun _ hK=>wp_copy_runI w d s t t' ho v u hd hs hr (hK _ _ h)
theorem step_copy_runI {ops:Array Oper} {o:Oper} {a:Act} {w:World} {K:Act→World→Prop} {Q:Exit→Act→World→Prop} {E:Prop}
  (hg:o.guard=none) (d x:Operand) (dT sT:TypeId) (hop:o.op=Op.call {callee:=Callee.builtin Builtin.copy,args:= #[d,x],argTypes:= #[dT,sT]})
  (v u:Value) (hd:a.eval d=v) (hx:a.eval x=u) {v':Value} {w':World} (hr:(Builtin.copy_ #[dT,sT] o.type #[v,u]).run P w=.ok v' w') (hK:K (a.put o.dst v') w'):
  if Region.wanted o (yielded ops a.tmps)=true then Oper.wp P o a w K Q else E:=by
 have hw:Region.wanted o (yielded ops a.tmps)=true:=by simp [Region.wanted,hg]
 rw [if_pos hw]
 unfold Oper.wp
 simp [execOp,hop,resolve,invoke,builtin,hd,hx,hr,Result.andThen]
 exact hK
end
section
variable {P:Program} {Wr:Nat→Prop} {S:Nat→Nat→Prop} {β:Nat→Option (Nat × Nat)} {hp:List Ob} {w w':World}
theorem run_copy_sz (w:World) (dT sT ty elem:TypeId) {ie:TypeInfo} (b o dLen dCap:Nat) (a:Addr) (sLen sCap k:Nat) (us:List Value) (hu:P.underlying dT=some (.slice elem)) (hie:P.info? elem=some ie) (hk:k=min sLen dLen) (hn:us.length=k*ie.size)
  (hsrc:∀ j v,us[j]? =some v→w.cell? (a.add j)=some v) (hc:∀ j,j<us.length→(w.cell? ⟨b,o+j,none⟩).isSome=true) (hf:∀ j,j<us.length→w.frozen? ⟨b,o+j,none⟩=false) (h1:∀ v∈us,v.oneCell'=true):
  (Builtin.copy_ #[dT,sT] ty #[.slice (some ⟨b,o,none⟩) dLen dCap,.slice (some a) sLen sCap]).run P w=.ok (.int .i64 (k:Int)) (w.setCells b o us):=by
 have hl:=run_loadCells_list (P:=P) w a us hsrc
 have hst:=run_storeCells_cells (P:=P) b o us 0 w (by simpa using hc) (by simpa using hf) h1
 simp [Builtin.copy_,run_underlying hu,Builtin.lenOf,Builtin.firstCells,sizeOf,typeInfo,hie,← hk,← hn,hl,hst,goInt]
theorem ins_done (h:HRel β hp S w Wr) {id sz ver n cap:Nat} {cs NEW:List C} {vals:List Value} (hid:hp[id]? =some (.cells sz ver cs false)) (hsz:0<sz) (hpl:∀ c∈NEW,plain c=true) (hl:NEW.length=(n+1)*sz)
  (hrel:RelL β hp S w NEW vals) (hv:Evo Wr S w w') {B O:Nat} {arr:Array Value} {e:TypeId} (hB:w'.heap[B]? =some (.cells arr e (0,0))) (hW:Wr B) (hn:n+1≤cap) (hcap:O+cap*sz≤arr.size)
  (hcell:∀ j u,vals[j]? =some u→w'.cell? ⟨B,O+j,none⟩=some u) (hS:∀ k,S B k→k<O)
  (hoth:∀ i szi veri csi fzi bi oi,i≠id→hp[i]? =some (.cells szi veri csi fzi)→β i=some (bi,oi)→w'.heap[bi]? =w.heap[bi]? ∧bi≠B)
  (hmap:∀ (i:Nat) (es:List (Value × V)) (bi:Nat),hp[i]? =some (Ob.map es)→β i=some (bi,0)→w'.heap[bi]? =w.heap[bi]?):
  ∃ β',RelC β' (hp.set id (.cells sz (ver+1) NEW false)) S w' (.ar id (ver+1) 0 (n+1)) (.slice (some ⟨B,O,none⟩) (n+1) cap)∧HRel β' (hp.set id (.cells sz (ver+1) NEW false)) S w' Wr∧Ext β hp S β' (hp.set id (.cells sz (ver+1) NEW false)) S:=by
 have hlt:id<hp.length:=(List.getElem?_eq_some_iff.1 hid).1
 have hx:=ext_bump β hp S (cs':=NEW) (fz':=false) (some (B,O)) hid
 have hle:(n+1)*sz≤cap*sz:=Nat.mul_le_mul_right _ hn
 refine ⟨_,relAr_bump (b:=B) (o:=O) hlt hB hn (by omega) hcap (by omega),h.put hv hlt hx ⟨hsz,fun _=>hpl⟩ (fun i szi veri csi fzi bi oi hne hi hb=> ?_)
  (.inr ⟨B,O,arr,e,rfl,hB,hW,by omega,fun j c hc=> ?_,fun k hk=>by have:=hS k hk; simpa using this⟩) hmap,hx⟩
 ·obtain ⟨k1,k2⟩:=hoth i szi veri csi fzi bi oi hne hi hb
  exact ⟨k1,fun b o hh=>by injection hh with hh; injection hh with hh _; rw [← hh]; exact k2⟩
 ·obtain ⟨u,m1,m2⟩:=hrel.get j c hc
  exact ⟨u,hcell j u m1,m2⟩
structure InsWalk (P:Program) (f:FuncId) (tS tI:TypeId) (sz:Nat):Prop where
 fin:∀ (base:Option Addr) (n c vb voff vc:Nat) (w w1:World) (v1:Value),n≤140737488355328→(Builtin.append_ #[tS,tS] tS #[.slice base n c,.slice (some ⟨vb,voff,none⟩) 1 vc]).run P w=.ok v1 w1→
  Calls P f #[.slice base n c,.int .i64 (n:Int),.slice (some ⟨vb,voff,none⟩) 1 vc] w fun e w'=>e=.returned v1∧w'=w1
 grow:∀ (b off n c i vb voff vc B G:Nat) (w w1 w2 w3:World) (k1 k2:Int),i<n→n≤c→c<n+1→n≤140737488355328→n+1≤G→G≤9223372036854775807→
  (Builtin.append_ #[tS,tI] tS #[.slice (some ⟨b,off,none⟩) i c,.int .i64 ((n:Int)+1 - (i:Int))]).run P w=.ok (.slice (some ⟨B,0,none⟩) (n+1) G) w1→
  (Builtin.copy_ #[tS,tS] tI #[.slice (some ⟨B,i*sz,none⟩) (n+1 - i) (G - i),.slice (some ⟨vb,voff,none⟩) 1 vc]).run P w1=.ok (.int .i64 k1) w2→
  (Builtin.copy_ #[tS,tS] tI #[.slice (some ⟨B,(i+1)*sz,none⟩) (n+1 - (i+1)) (G - (i+1)),.slice (some ⟨b,off+i*sz,none⟩) (n - i) (c - i)]).run P w2.drew=.ok (.int .i64 k2) w3→
  Calls P f #[.slice (some ⟨b,off,none⟩) n c,.int .i64 (i:Int),.slice (some ⟨vb,voff,none⟩) 1 vc] w fun e w'=>e=.returned (.slice (some ⟨B,0,none⟩) (n+1) G)∧w'=w3
 room:∀ (b off n c i vb voff vc:Nat) (w w1 w2:World) (k1 k2:Int) (arr arr1:Array Value) (e e1:TypeId),i<n→n+1≤c→n≤140737488355328→vb≠b→w.heap[vb]? =some (.cells arr1 e1 (0,0))→w.heap[b]? =some (.cells arr e (0,0))→0<arr.size→
  (Builtin.copy_ #[tS,tS] tI #[.slice (some ⟨b,off+(i+1)*sz,none⟩) (n+1 - (i+1)) (c - (i+1)),.slice (some ⟨b,off+i*sz,none⟩) (n+1 - i) (c - i)]).run P w.drew=.ok (.int .i64 k1) w1→
  (Builtin.copy_ #[tS,tS] tI #[.slice (some ⟨b,off+i*sz,none⟩) (n+1 - i) (c - i),.slice (some ⟨vb,voff,none⟩) 1 vc]).run P w1=.ok (.int .i64 k2) w2→
  Calls P f #[.slice (some ⟨b,off,none⟩) n c,.int .i64 (i:Int),.slice (some ⟨vb,voff,none⟩) 1 vc] w fun e w'=>e=.returned (.slice (some ⟨b,off,none⟩) (n+1) c)∧w'=w2
def insC {α:Type} (k:Nat) (cs new:List α):List α:=cs.take k++(new++cs.drop k)
theorem insC_get {α:Type} (k:Nat) (cs new:List α) (hk:k≤cs.length) (j:Nat) (u:α) (h:(insC k cs new)[j]? =some u):(j<k∧cs[j]? =some u)∨(k≤j∧j<k+new.length∧new[j - k]? =some u)∨(k+new.length≤j∧(cs.drop k)[j - (k+new.length)]? =some u):=by
 unfold insC at h
 rw [List.getElem?_append] at h
 split at h
 ·rename_i hj
  rw [List.length_take] at hj
  rw [List.getElem?_take_of_lt (by omega)] at h
  exact .inl ⟨by omega,h⟩
 ·rename_i hj
  rw [List.length_take] at hj h
  rw [Nat.min_eq_left hk] at hj h
  rw [List.getElem?_append] at h
  split at h
  ·exact .inr (.inl ⟨by omega,by omega,h⟩)
  ·exact .inr (.inr ⟨by omega,by rw [show j - (k+new.length)=j - k - new.length by omega]; exact h⟩)
theorem cellsOk (w:World) (b:Nat) (arr:Array Value) (e:TypeId) (hb:w.heap[b]? =some (.cells arr e (0,0))) (j:Nat) (hj:j<arr.size):(w.cell? ⟨b,j,none⟩).isSome=true:=by simp [World.cell?,hb,hj]
theorem frozenNo (w:World) (b:Nat) (arr:Array Value) (e:TypeId) (hb:w.heap[b]? =some (.cells arr e (0,0))) (j:Nat):w.frozen? ⟨b,j,none⟩=false:=by simp [World.frozen?,hb]
theorem ins_on (h:HRel β hp S w Wr) (hf:∀ b,w.heap.size≤b→Wr b) {f:FuncId} {tS tI e:TypeId} {ie:TypeInfo} {z:Value} (hw:InsWalk P f tS tI ie.size) (ht:P.underlying tS=some (.slice e)) (htI:P.underlying tI=some (.int .i64)) (hie:P.info? e=some ie) (hz:ie.zero=some z) (hzs:z.cells.size=ie.size)
  (hsz:0<ie.size) (hby:0<ie.bytes) {v0 v2:Value} {id id1 ver ver1 n i:Nat} {cs cs1:List C} {fz1:Bool} (hne:id1≠id) (hid:hp[id]? =some (.cells ie.size ver cs false)) (hid1:hp[id1]? =some (.cells ie.size ver1 cs1 fz1)) (hv0:ver≠0) (hv1:ver1≠0)
  (hr0:RelC β hp S w (.ar id ver 0 n) v0) (hr1:RelC β hp S w (.ar id1 ver1 0 1) v2) (hl0:cs.length=n*ie.size) (hl1:cs1.length=1*ie.size) (hi:i≤n) (hbytes:(n+1)*ie.bytes≤140737488355328):
  Calls P f #[v0,.int .i64 (i:Int),v2] w fun en w'=>∃ v β',en=.returned v∧RelC β' (hp.set id (.cells ie.size (ver+1) (insC (i*ie.size) cs cs1) false)) S w' (.ar id (ver+1) 0 (n+1)) v∧
   HRel β' (hp.set id (.cells ie.size (ver+1) (insC (i*ie.size) cs cs1) false)) S w' Wr∧Ext β hp S β' (hp.set id (.cells ie.size (ver+1) (insC (i*ie.size) cs cs1) false)) S∧Evo Wr S w w':=by
 have hn47:n+1≤140737488355328:=small_need hby hbytes
 have hisz:i*ie.size≤n*ie.size:=Nat.mul_le_mul_right _ hi
 have hr1':=hr1
 simp only [RelC,RelP] at hr1'
 obtain ⟨_,_,hs1⟩:=hr1'
 obtain ⟨_,hs1⟩:=(hs1 _ ver1 cs1 fz1 hid1)
 obtain ⟨_,hs1⟩:=hs1 rfl
 rcases hs1 with ⟨h0,_⟩ | ⟨vb,voff,vc,e1,arr1,fr1,hb1,hv2,hvc,hbk1,hroom1,hcov1⟩
 ·omega
 rw [Nat.add_zero] at hv2
 obtain ⟨⟨_,hpl1⟩,hcells1⟩:=h.cells id1 _ ver1 cs1 fz1 hid1
 have hpl1:=hpl1 hv1
 have hL1:Lies β hp S w cs1 vb voff∧w.heap[vb]? =some (.cells arr1 e1 (0,0)):=by
  rcases hcells1 with hc | ⟨b',o',arr',e'',k1,k2,k3,k4,k5,k6⟩
  ·rw [hc.1] at hb1; cases hb1
  rw [hb1] at k1
  simp only [Option.some.injEq,Prod.mk.injEq] at k1
  obtain ⟨rfl,rfl⟩:=k1
  rw [hbk1] at k2
  simp only [Option.some.injEq,Obj.cells.injEq] at k2
  obtain ⟨rfl,rfl,rfl⟩:=k2
  exact ⟨k5,hbk1⟩
 obtain ⟨hL1,hbk1⟩:=hL1
 obtain ⟨us1,g1,g2⟩:=hL1.values
 have hus1:us1.length=1*ie.size:=by rw [g1.length,hl1]
 have hvbs:vb<w.heap.size:=h.block_lt hid1 hb1
 subst hv2
 obtain ⟨⟨_,hpl0⟩,hcells0⟩:=h.cells id _ ver cs false hid
 have hpl0:=hpl0 hv0
 by_cases hin:i=n
 ·
  subst hin
  have hins:insC (i*ie.size) cs cs1=appCells cs 0 (i*ie.size) cs1 0:=by
   unfold insC appCells
   rw [List.drop_zero,List.take_zero,List.append_nil,List.drop_eq_nil_of_le (by omega),List.append_nil]
  rw [hins]
  obtain ⟨v,w',β',r1,r2,r3,r4,r5⟩:=append_on (P:=P) (ty:=tS) (x:=.ar id1 ver1 0 1) (ub:=.slice (some ⟨vb,voff,none⟩) 1 vc) (m:=1) (new:=cs1) h hf ht hie hz hzs hsz hby (by
   unfold slOf
   simp only [hid1]
   rw [if_pos ⟨trivial,trivial,hv1⟩,List.drop_zero,Nat.one_mul,List.take_of_length_le (by omega)]) hr1 hr0 hid (by omega) (fun hh=>by cases hh) hv0 hbytes 0
  have hr0':=hr0
  simp only [RelC,RelP] at hr0'
  obtain ⟨⟨a,n',cap,rfl⟩,_,hs0⟩:=hr0'
  have hn':n'=i:=by
   obtain ⟨_,hs0⟩:=hs0 _ ver cs false hid
   obtain ⟨_,hs0⟩:=hs0 rfl
   rcases hs0 with ⟨h0,_,a',hh⟩ | ⟨b,oo,cp,e',arr,_,_,hh,_⟩
   ·injection hh with _ hh _; omega
   ·injection hh
  subst hn'
  refine (hw.fin _ _ _ _ _ _ _ _ _ (by omega) r1).mono ?_
  rintro en w2 ⟨rfl,rfl⟩
  exact ⟨v,β',rfl,r2,r3,r4,r5⟩
 have hilt:i<n:=by omega
 have hr0':=hr0
 simp only [RelC,RelP] at hr0'
 obtain ⟨_,_,hs0⟩:=hr0'
 obtain ⟨_,hs0⟩:=hs0 _ ver cs false hid
 obtain ⟨_,hs0⟩:=hs0 rfl
 rcases hs0 with ⟨h0,_⟩ | ⟨b,oo,c,e0,arr,fr0,hb,rfl,hcap,hbk,hroom,hcov⟩
 ·omega
 rw [Nat.add_zero] at hroom ⊢
 rcases hcells0 with hc | ⟨b',o',arr',e'',k1,k2,k3,k4,k5,k6⟩
 ·rw [hc.1] at hb; cases hb
 rw [hb] at k1
 simp only [Option.some.injEq,Prod.mk.injEq] at k1
 obtain ⟨rfl,rfl⟩:=k1
 rw [hbk] at k2
 simp only [Option.some.injEq,Obj.cells.injEq] at k2
 obtain ⟨rfl,rfl,rfl⟩:=k2
 have hL0:Lies β hp S w cs b oo:=k5
 obtain ⟨olds,o1,o2⟩:=hL0.values
 have hol:olds.length=n*ie.size:=by rw [o1.length,hl0]
 have hbs:b<w.heap.size:=h.block_lt hid hb
 have hvbb:vb≠b:=fun hh=>hne (h.inj id1 id _ _ _ _ _ _ _ _ vb voff oo hid1 hid hb1 (hh ▸ hb))
 have hS0:∀ k,S b k→k<oo:=fun k hk=>by have:=k6 k hk; simpa using this
 have hrel:RelL β hp S w (insC (i*ie.size) cs cs1) (insC (i*ie.size) olds us1):=(o1.take _).append (g1.append (o1.drop _))
 have hplN:∀ c∈insC (i*ie.size) cs cs1,plain c=true:=fun c hc=>by
  rcases List.mem_append.1 hc with hc | hc
  ·exact hpl0 c (List.mem_of_mem_take hc)
  ·rcases List.mem_append.1 hc with hc | hc
   ·exact hpl1 c hc
   ·exact hpl0 c (List.mem_of_mem_drop hc)
 have hlN:(insC (i*ie.size) cs cs1).length=(n+1)*ie.size:=by
  unfold insC
  rw [List.length_append,List.length_append,List.length_take,List.length_drop,hl0,hl1,Nat.add_mul]
  omega
 have hi1:(i+1)*ie.size=i*ie.size+1*ie.size:=Nat.add_mul _ _ _
 have hn1:(n+1)*ie.size=n*ie.size+1*ie.size:=Nat.add_mul _ _ _
 have hni:(n - i)*ie.size=n*ie.size - i*ie.size:=Nat.sub_mul _ _ _
 have hdl:(olds.drop (i*ie.size)).length=(n - i)*ie.size:=by rw [List.length_drop,hol,hni]
 have hall0:=o1.all
 have hall1:=g1.all
 rcases Nat.lt_or_ge c (n+1) with hgt | hle
 ·
  have hcG:=cut_grownCap_ge w (n+1) c e (by omega)
  have hG63:grownCap w (n+1) c e≤9223372036854775807:=by
   have:=grownCap_le_maxLen w (n+1) c e (by unfold maxLen; omega)
   unfold maxLen at this
   omega
  have hik:i+(n+1 - i)=n+1:=by omega
  have hap:=Lib.run_append_grow_zeros (P:=P) w tS tI tS e ie z .i64 .i64 ht htI hie hz (some ⟨b,oo,none⟩) i c (olds.take (i*ie.size))
   (run_firstCells_some (P:=P) w.drew ie.size i ⟨b,oo,none⟩ i c _ (by rw [List.length_take]; omega) (fun j v hv=>by
    rw [Addr.add_mid]
    rw [List.getElem?_take] at hv
    split at hv
    ·exact o2 j v hv
    ·cases hv)) (n+1 - i) (by omega) hsz (by omega) (by omega)
   (Nat.le_trans (show (n+1 - i)*ie.bytes≤(n+1)*ie.bytes from Nat.mul_le_mul_right _ (by omega)) (by omega)) (by rw [hik]; exact growslice_fits hgt hbytes)
  rw [hik,show ((n+1 - i:Nat):Int)=(n:Int)+1 - (i:Int) by omega] at hap
  generalize hG:grownCap w (n+1) c e=G at hap hcG hG63
  generalize hROW:((olds.take (i*ie.size)).toArray++Builtin.zeroCells z.cells (n+1 - i)++Builtin.zeroCells z.cells (G - (n+1)))=ROW at hap
  have hRs:ROW.size=G*ie.size:=by
   rw [← hROW]
   simp only [Array.size_append,size_zeroCells,hzs,List.size_toArray,List.length_take]
   have e1:(n+1 - i)*ie.size=(n+1)*ie.size - i*ie.size:=Nat.sub_mul _ _ _
   have e2:(G - (n+1))*ie.size=G*ie.size - (n+1)*ie.size:=Nat.sub_mul _ _ _
   have e3:(n+1)*ie.size≤G*ie.size:=Nat.mul_le_mul_right _ hcG
   omega
  have hRold:∀ j u,j<i*ie.size→olds[j]? =some u→ROW[j]? =some u:=fun j u hj hu=>by
   rw [← hROW,Array.getElem?_append_left (by simp only [Array.size_append,List.size_toArray,List.length_take]; omega),Array.getElem?_append_left (by simp only [List.size_toArray,List.length_take]; omega)]
   rw [List.getElem?_toArray,List.getElem?_take_of_lt hj]
   exact hu
  have hGn:(n+1)*ie.size≤G*ie.size:=Nat.mul_le_mul_right _ hcG
  have hB1:(w.drew.alloc (.cells ROW e)).heap[w.heap.size]? =some (.cells ROW e (0,0)):=heap_alloc_new w.drew _
  have hc1:=run_copy_sz (P:=P) (w.drew.alloc (.cells ROW e)) tS tS tI e w.heap.size (i*ie.size) (n+1 - i) (G - i) ⟨vb,voff,none⟩ 1 vc 1 us1 ht hie (by omega) hus1 (fun j v hv=>by
    rw [Addr.add_mid]
    have:=g2 j v hv
    rw [cell_of_heap (RowKit.Below.heap_alloc w.drew _ _ hvbs)]
    exact this) (fun j hj=>cellsOk _ _ _ _ hB1 _ (by omega)) (fun j hj=>frozenNo _ _ _ _ hB1 _) hall1
  obtain ⟨arr2,a1,a2⟩:=heap_setCells_same w.heap.size us1 (i*ie.size) (w.drew.alloc (.cells ROW e)) ROW e (0,0) hB1
  generalize hW2:(w.drew.alloc (.cells ROW e)).setCells w.heap.size (i*ie.size) us1=w2 at hc1 a1
  have hbk2:w2.heap[b]? =w.heap[b]? :=by
   rw [← hW2,heap_setCells_other _ _ (by omega)]
   exact RowKit.Below.heap_alloc w.drew _ _ hbs
  have hc2:=run_copy_sz (P:=P) w2.drew tS tS tI e w.heap.size ((i+1)*ie.size) (n+1 - (i+1)) (G - (i+1)) ⟨b,oo+i*ie.size,none⟩ (n - i) (c - i) (n - i) (olds.drop (i*ie.size)) ht hie (by omega) hdl (fun j v hv=>by
    rw [Addr.add_mid]
    rw [List.getElem?_drop] at hv
    have:=o2 (i*ie.size+j) v hv
    rw [cell_of_heap (w:=w) (w':=w2.drew) (b:=b) hbk2,Nat.add_assoc]
    exact this) (fun j hj=>cellsOk _ _ _ _ a1 _ (by omega)) (fun j hj=>frozenNo _ _ _ _ a1 _) (fun v hv=>hall0 v (List.mem_of_mem_drop hv))
  obtain ⟨arr3,b1,b2⟩:=heap_setCells_same w.heap.size (olds.drop (i*ie.size)) ((i+1)*ie.size) w2.drew arr2 e (0,0) a1
  generalize hW3:w2.drew.setCells w.heap.size ((i+1)*ie.size) (olds.drop (i*ie.size))=w3 at hc2 b1
  have hWn:Wr w.heap.size:=hf _ (Nat.le_refl _)
  have hSn:∀ k,S w.heap.size k→False:=fun k hk=>absurd (h.imm _ _ hk) (by omega)
  have hv3:Evo Wr S w w3:=by
   have q1:Evo Wr S w (w.drew.alloc (.cells ROW e)):=(Evo.drew (Wr:=Wr) (S:=S) w).trans (Evo.alloc w.drew _ h.imm) (fun _ _ hs=>hs)
   have q2:Evo Wr S (w.drew.alloc (.cells ROW e)) w2:=by rw [← hW2]; exact Evo.setCells _ hWn fun k hk=>(hSn k hk).elim
   have q3:Evo Wr S w2 w2.drew:=Evo.drew w2
   have q4:Evo Wr S w2.drew w3:=by rw [← hW3]; exact Evo.setCells _ hWn fun k hk=>(hSn k hk).elim
   exact ((q1.trans q2 fun _ _ hs=>hs).trans q3 fun _ _ hs=>hs).trans q4 fun _ _ hs=>hs
  have hother:∀ bi,bi<w.heap.size→w3.heap[bi]? =w.heap[bi]? :=fun bi hbi=>by
   rw [← hW3,heap_setCells_other _ _ (by omega)]
   show w2.heap[bi]? =_
   rw [← hW2,heap_setCells_other _ _ (by omega)]
   exact RowKit.Below.heap_alloc w.drew _ _ hbi
  obtain ⟨β',r1,r2,r3⟩:=ins_done (w':=w3) (vals:=insC (i*ie.size) olds us1) h hid hsz hplN hlN hrel hv3 (O:=0) b1 hWn hcG (by rw [b2,a2,hRs]; omega) (fun j u hj=>by
   rw [Nat.zero_add]
   rcases insC_get _ _ _ (by omega) j u hj with ⟨q1,q2⟩ | ⟨q1,q2,q3⟩ | ⟨q1,q2⟩
   ·rw [← hW3,World.cell?_setCells_out _ _ _ _ _ (fun _ _=>by simp only; omega)]
    show w2.cell? _=_
    rw [← hW2,World.cell?_setCells_out _ _ _ _ _ (fun _ _=>by simp only; omega)]
    have:=hRold j u q1 q2
    simp only [World.cell?,hB1,Option.isSome_none,Bool.false_eq_true,if_false]
    exact this
   ·rw [← hW3,World.cell?_setCells_out _ _ _ _ _ (fun _ _=>by simp only; omega)]
    show w2.cell? _=_
    have:=World.cell?_setCells_in w.heap.size us1 (i*ie.size) (w.drew.alloc (.cells ROW e)) (fun t ht=>cellsOk _ _ _ _ hB1 _ (by omega)) (j - i*ie.size) (by omega)
    rw [show i*ie.size+(j - i*ie.size)=j by omega,hW2] at this
    rw [this,← q3]
    exact (List.getElem?_eq_getElem (by omega)).symm
   ·have hjl:=(List.getElem?_eq_some_iff.1 q2).1
    have:=World.cell?_setCells_in w.heap.size (olds.drop (i*ie.size)) ((i+1)*ie.size) w2.drew (fun t ht=>cellsOk _ _ _ _ a1 _ (by omega)) (j - (i*ie.size+us1.length)) hjl
    rw [show (i+1)*ie.size+(j - (i*ie.size+us1.length))=j by omega,hW3] at this
    rw [this,← q2]
    exact (List.getElem?_eq_getElem hjl).symm) (fun k hk=>(hSn k hk).elim) (fun i' szi veri csi fzi bi oi hne' hi' hbi=>by
    have:=h.block_lt hi' hbi
    exact ⟨hother bi this,by omega⟩) (fun i' es bi hi' hbi=>hother bi (h.map_lt hi' hbi))
  refine (hw.grow b oo n c i vb voff vc w.heap.size G w _ w2 w3 _ _ hilt hcap hgt (by omega) hcG hG63 hap hc1 hc2).mono ?_
  rintro en w4 ⟨rfl,rfl⟩
  exact ⟨_,β',rfl,r1,r2,r3,hv3⟩
 ·
  have hcc:(n+1)*ie.size≤c*ie.size:=Nat.mul_le_mul_right _ hle
  have hbkd:w.drew.heap[b]? =some (.cells arr e0 (0,0)):=hbk
  have hWb:Wr b:=k3
  have hc1:=run_copy_sz (P:=P) w.drew tS tS tI e b (oo+(i+1)*ie.size) (n+1 - (i+1)) (c - (i+1)) ⟨b,oo+i*ie.size,none⟩ (n+1 - i) (c - i) (n - i) (olds.drop (i*ie.size)) ht hie (by omega) hdl (fun j v hv=>by
    rw [Addr.add_mid]
    rw [List.getElem?_drop] at hv
    have:=o2 (i*ie.size+j) v hv
    rw [Nat.add_assoc]
    exact this) (fun j hj=>cellsOk _ _ _ _ hbkd _ (by omega)) (fun j hj=>frozenNo _ _ _ _ hbkd _) (fun v hv=>hall0 v (List.mem_of_mem_drop hv))
  obtain ⟨arr2,a1,a2⟩:=heap_setCells_same b (olds.drop (i*ie.size)) (oo+(i+1)*ie.size) w.drew arr e0 (0,0) hbkd
  generalize hW1:w.drew.setCells b (oo+(i+1)*ie.size) (olds.drop (i*ie.size))=w1 at hc1 a1
  have hvk:w1.heap[vb]? =w.heap[vb]? :=by
   rw [← hW1,heap_setCells_other _ _ hvbb]
   rfl
  have hc2:=run_copy_sz (P:=P) w1 tS tS tI e b (oo+i*ie.size) (n+1 - i) (c - i) ⟨vb,voff,none⟩ 1 vc 1 us1 ht hie (by omega) hus1 (fun j v hv=>by
    rw [Addr.add_mid,cell_of_heap (w:=w) (w':=w1) (b:=vb) hvk]
    exact g2 j v hv) (fun j hj=>cellsOk _ _ _ _ a1 _ (by omega)) (fun j hj=>frozenNo _ _ _ _ a1 _) hall1
  obtain ⟨arr3,b1,b2⟩:=heap_setCells_same b us1 (oo+i*ie.size) w1 arr2 e0 (0,0) a1
  generalize hW2:w1.setCells b (oo+i*ie.size) us1=w2 at hc2 b1
  have hv2:Evo Wr S w w2:=by
   have q1:Evo Wr S w w.drew:=Evo.drew w
   have q2:Evo Wr S w.drew w1:=by rw [← hW1]; exact Evo.setCells _ hWb fun k hk=>.inl (by have:=hS0 k hk; omega)
   have q3:Evo Wr S w1 w2:=by rw [← hW2]; exact Evo.setCells _ hWb fun k hk=>.inl (by have:=hS0 k hk; omega)
   exact (q1.trans q2 fun _ _ hs=>hs).trans q3 fun _ _ hs=>hs
  have hother:∀ bi,bi≠b→w2.heap[bi]? =w.heap[bi]? :=fun bi hbi=>by
   rw [← hW2,heap_setCells_other _ _ hbi,← hW1,heap_setCells_other _ _ hbi]
   rfl
  obtain ⟨β',r1,r2,r3⟩:=ins_done (w':=w2) (vals:=insC (i*ie.size) olds us1) h hid hsz hplN hlN hrel hv2 (O:=oo) b1 hWb hle (by rw [b2,a2]; exact hroom) (fun j u hj=>by
   rcases insC_get _ _ _ (by omega) j u hj with ⟨q1,q2⟩ | ⟨q1,q2,q3⟩ | ⟨q1,q2⟩
   ·rw [← hW2,World.cell?_setCells_out _ _ _ _ _ (fun _ _=>by simp only; omega),← hW1,World.cell?_setCells_out _ _ _ _ _ (fun _ _=>by simp only; omega)]
    exact o2 j u q2
   ·have:=World.cell?_setCells_in b us1 (oo+i*ie.size) w1 (fun t ht=>cellsOk _ _ _ _ a1 _ (by omega)) (j - i*ie.size) (by omega)
    rw [show oo+i*ie.size+(j - i*ie.size)=oo+j by omega,hW2] at this
    rw [this,← q3]
    exact (List.getElem?_eq_getElem (by omega)).symm
   ·have hjl:=(List.getElem?_eq_some_iff.1 q2).1
    rw [← hW2,World.cell?_setCells_out _ _ _ _ _ (fun _ _=>by simp only; omega)]
    have:=World.cell?_setCells_in b (olds.drop (i*ie.size)) (oo+(i+1)*ie.size) w.drew (fun t ht=>cellsOk _ _ _ _ hbkd _ (by omega)) (j - (i*ie.size+us1.length)) hjl
    rw [show oo+(i+1)*ie.size+(j - (i*ie.size+us1.length))=oo+j by omega,hW1] at this
    rw [this,← q2]
    exact (List.getElem?_eq_getElem hjl).symm) hS0 (fun i' szi veri csi fzi bi oi hne' hi' hbi=>by
    have hb':bi≠b:=fun hh=>hne' (h.inj i' id _ _ _ _ _ _ _ _ bi oi oo hi' hid hbi (hh ▸ hb))
    exact ⟨hother bi hb',hb'⟩) (fun i' es bi hi' hbi=>hother bi fun hh=>by
    subst hh
    obtain ⟨b2',arr3',clock,n1,n2,_⟩:=h.maps i' es hi'
    rw [n1] at hbi
    injection hbi with hbi
    injection hbi with hbi _
    subst hbi
    rw [hbk] at n2
    cases n2)
  refine (hw.room b oo n c i vb voff vc w w1 w2 _ _ arr arr1 e0 e1 hilt hle (by omega) hvbb hbk1 hbk (by omega) hc1 hc2).mono ?_
  rintro en w4 ⟨rfl,rfl⟩
  exact ⟨_,β',rfl,r1,r2,r3,hv2⟩
end
def insE (f:FuncId) (t:Ty):Ent:=⟨f,[(0,.arr t lNil false),(1,.arr t lNil false)],[.own 0 t.size,.pure (.int .i64) (Ty.dflt _),.own 1 t.size],[(2,.arr t lNil false)],[.own 2 t.size],[]⟩
def insF (f:FuncId) (t:Ty) (k:Nat):Fun:=⟨insE f t,fun (x:HL [.int .i64,.fl t,.fl t])=>((decide (x.2.2.1.length=1) && (decide ((0:Int)≤x.1) && (decide (Int.toNat x.1≤x.2.1.length) && decide ((x.2.1.length+1)*k≤140737488355328)))),(insC (Int.toNat x.1) x.2.1 x.2.2.1,()))⟩
theorem encL_take1 (t:Ty) (L:List t.den) (n:Nat):(L.flatMap (enc t)).take (n*t.size)=(L.take n).flatMap (enc t):=by
 have:=encL_drop t L 0 n
 rw [Nat.zero_mul,List.drop_zero,List.drop_zero] at this
 exact this
theorem encL_drop1 (t:Ty) (L:List t.den) (n:Nat):(L.flatMap (enc t)).drop (n*t.size)=(L.drop n).flatMap (enc t):=by
 have:=encL_drop t L n L.length
 rw [List.take_of_length_le (by rw [List.length_drop,encL_len]; omega),List.take_of_length_le (by rw [List.length_drop]; omega)] at this
 exact this
theorem wkL_ins {t:Ty} {L M:List t.den} {cs cs1:List C} {i:Nat} (h0:WkL cs (L.flatMap (enc t))) (h1:WkL cs1 (M.flatMap (enc t))):WkL (insC (i*t.size) cs cs1) ((insC i L M).flatMap (enc t)):=by
 unfold insC
 rw [List.flatMap_append,List.flatMap_append,← encL_drop1,← encL_take1]
 exact (h0.take _).append (h1.append (h0.drop _))
theorem ins_ok {P:Program} {f:FuncId} {t:Ty} {k:Nat} {tS tI e:TypeId} (ht0:0<t.size) (hk0:0<k) (hcall:∀ (vals:Array Value) (w:World),(callFunc f vals).run P w=.ok (.enter f vals) w)
  (hu:P.underlying tS=some (.slice e)) (hI:P.underlying tI=some (.int .i64)) (hk:kindOk P e t.size k=true) (hw:InsWalk P f tS tI t.size):FunOk P (insF f t k) where
 call:=hcall
 runs:=fun x s0 res l1 hs hst hok hres hhs=>by
  change HL [.int .i64,.fl t,.fl t] at x
  obtain ⟨z,L,M,u⟩:=x
  have h1:startSt (insE f t) (HL.leaves [.int .i64,.fl t,.fl t] (z,L,M,u))=some {sl:=(List.range 3).zip [T.own 0 t.size,T.pure (.int .i64) z,T.own 1 t.size],hp:= [(0,⟨.tt,.arr t L false⟩),(1,⟨.tt,.arr t M false⟩)],nx:=2} :=by
   simp only [startSt,insE,HL.leaves,plugTs,T.plug,plugRs,Rt.plug,dif_pos,castD,kept]
   rfl
  have h2:startSt (insE f t) (HL.leaves [.int .i64,.fl t,.fl t] (z,L,M,u))=some s0:=hst
  rw [h1] at h2
  injection h2 with h2
  subst h2
  have hres:some ([T.own 2 t.size],[(⟨.fl t,insC (Int.toNat z) L M⟩:Leaf)])=some (res,l1):=hres
  simp only [Option.some.injEq,Prod.mk.injEq] at hres
  obtain ⟨rfl,rfl⟩:=hres
  have hp1:plugRs [(2,.arr t lNil false)] [(⟨.fl t,insC (Int.toNat z) L M⟩:Leaf)]=some ([(2,.arr t (insC (Int.toNat z) L M) false)],[]):=by
   simp only [plugRs,Rt.plug,dif_pos,castD]
  have hhs:plugRs [(2,.arr t lNil false)] [(⟨.fl t,insC (Int.toNat z) L M⟩:Leaf)]=some (hs,[]):=hhs
  rw [hp1] at hhs
  simp only [Option.some.injEq,Prod.mk.injEq,and_true] at hhs
  subst hhs
  refine ⟨rfl,fun loc β H S w Wr own0 n0 vals hheap hsz hslots=> ?_⟩
  have hok:(decide (M.length=1) && (decide ((0:Int)≤z) && (decide (Int.toNat z≤L.length) && decide ((L.length+1)*k≤140737488355328))))=true:=hok
  simp only [Bool.and_eq_true,decide_eq_true_eq] at hok
  obtain ⟨g1,g2,g3,g4⟩:=hok
  obtain ⟨i,rfl⟩:∃ n:Nat,z=(n:Int):=⟨Int.toNat z,(Int.toNat_of_nonneg g2).symm⟩
  rw [Int.toNat_natCast] at g3 ⊢
  generalize hs0:({sl:=(List.range 3).zip [T.own 0 t.size,T.pure (.int .i64) ((i:Int):(Ty.int .i64).den),T.own 1 t.size],hp:= [(0,⟨.tt,.arr t L false⟩),(1,⟨.tt,.arr t M false⟩)],nx:=2} :St)=s0 at*
  have hr0:s0.root 0=⟨.tt,.arr t L false⟩:=by rw [← hs0]; rfl
  have hr1:s0.root 1=⟨.tt,.arr t M false⟩:=by rw [← hs0]; rfl
  have ha0:=hheap.at_ 0 (by rw [hr0]; rfl)
  have ha1:=hheap.at_ 1 (by rw [hr1]; rfl)
  rw [hr0] at ha0
  rw [hr1] at ha1
  obtain ⟨p1,_,cs,p3,p4⟩:=ha0
  obtain ⟨q1,_,cs1,q3,q4⟩:=ha1
  have hlv0:(s0.root 0).live=true:=by rw [hr0]; rfl
  have hlv1:(s0.root 1).live=true:=by rw [hr1]; rfl
  have hne:(loc 1).1≠(loc 0).1:=fun hh=>by
   have:=hheap.inj 1 0 hlv1 hlv0 hh
   omega
  have e0:=hslots 0 (show (0:Nat)<3 by omega)
  have e1:=hslots 1 (show (1:Nat)<3 by omega)
  have e2:=hslots 2 (show (2:Nat)<3 by omega)
  rw [show s0.slot 0=T.own 0 t.size by rw [← hs0]; rfl,encD_own hr0 rfl] at e0
  rw [show s0.slot 2=T.own 1 t.size by rw [← hs0]; rfl,encD_own hr1 rfl,g1] at e2
  rw [show s0.slot 1=T.pure (.int .i64) ((i:Int):(Ty.int .i64).den) by rw [← hs0]; rfl] at e1
  have e0:RelC β H S w (.ar (loc 0).1 (loc 0).2 0 L.length) (vals.getD 0 undef):=e0
  have e2:RelC β H S w (.ar (loc 1).1 (loc 1).2 0 1) (vals.getD 2 undef):=e2
  have e1:RelC β H S w (.sc (.int .i64 (i:Int))) (vals.getD 1 undef):=e1
  have e1':=e1
  simp only [RelC,RelP] at e1'
  have hvals:vals= #[vals.getD 0 undef,.int .i64 (i:Int),vals.getD 2 undef]:=by
   have hsz:vals.size=3:=hsz
   apply Array.ext (by rw [hsz]; rfl)
   intro j hj1 hj2
   have:j=0∨j=1∨j=2:=by omega
   rcases this with rfl | rfl | rfl
   ·rw [Array.getD_eq_getD_getElem?,Array.getElem?_eq_getElem hj1]; rfl
   ·have:=e1'.1
    rw [Array.getD_eq_getD_getElem?,Array.getElem?_eq_getElem hj1] at this
    exact this
   ·simp only [Array.getD_eq_getD_getElem?,Array.getElem?_eq_getElem hj1]; rfl
  obtain ⟨ie,zv,hie,hz,hzc,hisz,hby⟩:=kindOk_some hk
  have hl0:cs.length=L.length*ie.size:=by rw [p4.1,encL_len,hisz]
  have hl1:cs1.length=1*ie.size:=by rw [q4.1,encL_len,g1,hisz]
  have key:=ins_on (P:=P) (f:=f) (tS:=tS) (tI:=tI) hheap.heap hheap.fresh (by rw [hisz]; exact hw) hu hI hie hz (by rw [hzc,hisz]) (by omega) (by omega) hne (by rw [hisz]; exact p3) (by rw [hisz]; exact q3) p1 q1 e0 e2 hl0 hl1 g3 (by rw [hby]; exact g4)
  rw [hvals]
  refine key.mono ?_
  rintro en w' ⟨v,β',rfl,r1,r2,r3,r4⟩
  have hlt:(loc 0).1<H.length:=(List.getElem?_eq_some_iff.1 p3).1
  have hroot2:(endSt (insE f t) s0 [(2,.arr t (insC i L M) false)]).root 2=⟨.tt,.arr t (insC i L M) false⟩:=rfl
  have hdead:∀ r,r≠2→((endSt (insE f t) s0 [(2,.arr t (insC i L M) false)]).root r).live=false:=fun r hr=>by
   show ((look [(2,(⟨.tt,.arr t (insC i L M) false⟩:HE))] r).getD ⟨.ff,.gone⟩).live=false
   rw [look_cons,if_neg (fun h=>hr h.symm)]
   rfl
  have hclean:Clean s0 2 3:=by
   refine ⟨fun t' r hr hk=> ?_,fun r h1 h2=> ?_,fun r ty x hx q hq hk=> ?_⟩
   ·have hn:∀ q∈(s0.slot t').names,q<2:=by
     rw [← hs0]
     match t' with
     | 0=>intro q hq; have:q∈ [0]:=hq; simp at this; omega
     | 1=>intro q hq; cases hq
     | 2=>intro q hq; have:q∈ [1]:=hq; simp at this; omega
     | n+3=>intro q hq; cases hq
    have:=hn r hr
    omega
   ·have:r=2:=by omega
    subst this
    rw [← hs0]; rfl
   ·rw [← hs0] at hx
    match r with
    | 0=>cases hx
    | 1=>cases hx
    | n+2=>cases hx
  have hnew:Heap (endSt (insE f t) s0 [(2,.arr t (insC i L M) false)]) (setLoc loc 2 ((loc 0).1,(loc 0).2+1)) β' (H.set (loc 0).1 (.cells ie.size ((loc 0).2+1) (insC (i*ie.size) cs cs1) false)) S w' Wr own0 n0:=by
   refine Heap.next hheap r2 r4.size (by rw [List.length_set]; exact hheap.len) (lo:=2) (hi:=3) (fun r hr hl=> ?_) hclean (fun r=>r=2) (fun r hl hr=> ?_) (fun r hl hr=> ?_)
   ·by_cases h2:r=2
    ·subst h2; exact absurd ⟨Nat.le_refl _,by omega⟩ hr
    ·rw [hdead r h2] at hl; cases hl
   ·rw [hdead r hr] at hl; cases hl
   ·subst hr
    refine ⟨fun _=> ?_,?_,fun r' hl' _=> ?_⟩
    ·rw [hroot2,setLoc_self]
     refine ⟨by simp,ht0,insC (i*ie.size) cs cs1,?_,?_⟩
     ·simp only [List.getElem?_set,hlt,if_true,hisz]
     ·rw [hisz]; exact wkL_ins p4 q4
    ·rw [setLoc_self]
     exact hheap.own 0 hlv0
    ·by_cases h2:r'=2
     ·exact h2
     ·rw [hdead r' h2] at hl'; cases hl'
  refine ⟨v,_,_,_,_,rfl,hnew,?_,⟨r3,r4,fun _ _ h=>.inl h,fun id hid ho=> ?_⟩,fun r hr hl=> ?_⟩
  ·show RelD β' _ S w' (encD (endSt (insE f t) s0 [(2,.arr t (insC i L M) false)]) (setLoc loc 2 ((loc 0).1,(loc 0).2+1)) (T.own 2 t.size)) v
   rw [encD_own hroot2 rfl,setLoc_self]
   have hlen:(insC i L M).length=L.length+1:=by
    unfold insC
    rw [List.length_append,List.length_append,List.length_take,List.length_drop,g1]
    omega
   rw [hlen]
   exact r1
  ·have:id≠(loc 0).1:=fun hh=>by
    subst hh
    rcases hheap.own 0 hlv0 with h | h
    ·exact ho h
    ·omega
   simp only [List.getElem?_set,if_neg (fun hh=>this (Eq.symm hh))]
  ·have hr:r<2:=hr
   have hl:((endSt (insE f t) s0 [(2,.arr t (insC i L M) false)]).root r).live=true:=hl
   rw [hdead r (by omega)] at hl
   cases hl
end Go.Tm

namespace Go.Tm
set_option linter.unusedVariables false
theorem decT {p:Prop} [Decidable p] (h:p):decide p=true:=decide_eq_true h
theorem decF {p:Prop} [Decidable p] (h:¬ p):decide p=false:=decide_eq_false h
theorem cond_t (c:Bool):(cond c c true)=true:=by cases c<;>rfl
theorem beqI {a b:Int} (h:¬ a=b):(a==b)=false:=by simpa using h
theorem bneI {a b:Int} (h:¬ a=b):(a !=b)=true:=by simpa using h
def RGo {σ ρ:Type} (z:Bool × Bool × σ × ρ) (y:σ):Prop:=z.1=true∧z.2.1=true∧z.2.2.1=y
def REnd {σ ρ:Type} (z:Bool × Bool × σ × ρ) (r:ρ):Prop:=z.1=true∧z.2.1=false∧z.2.2.2=r
theorem RGo.go {σ ρ:Type} {d:ρ} {step:σ→Bool × Bool × σ × ρ} {x y:σ} (h:RGo (step x) y):loopR d step x=loopR d step y:=by
 obtain ⟨h1,h2,h3⟩:=h
 exact loopR_go (r:=(step x).2.2.2) (Prod.ext h1 (Prod.ext h2 (Prod.ext h3 rfl)))
theorem REnd.end {σ ρ:Type} {d:ρ} {step:σ→Bool × Bool × σ × ρ} {x:σ} {r:ρ} (h:REnd (step x) r):loopR d step x=(true,r):=by
 obtain ⟨h1,h2,h3⟩:=h
 exact loopR_end (y:=(step x).2.2.1) (Prod.ext h1 (Prod.ext h2 (Prod.ext rfl h3)))
def runN {X ρ:Type} (F:Nat→X→X ⊕ ρ) (R:X→ρ):Nat→Nat→X→ρ
 | 0,_,x=>R x
 | k+1,i,x=>match F i x with
  | .inl y=>runN F R k (i+1) y
  | .inr r=>r
theorem loop_idx {X ρ:Type} {d:ρ} {step:Int × X→Bool × Bool × (Int × X) × ρ} (n:Nat) (I:Nat→X→Prop) (F:Nat→X→X ⊕ ρ) (R:X→ρ)
  (hgo:∀ i x,i<n→I i x→match F i x with | .inl y=>RGo (step ((i:Int),x)) (((i+1:Nat):Int),y)∧I (i+1) y | .inr r=>REnd (step ((i:Int),x)) r)
  (hend:∀ x,I n x→REnd (step ((n:Int),x)) (R x)):∀ k i x,i+k=n→I i x→loopR d step ((i:Int),x)=(true,runN F R k i x):=by
 intro k
 induction k with
 | zero=>
  intro i x hi hx
  have:i=n:=by omega
  subst this
  exact (hend x hx).end
 | succ k ih=>
  intro i x hi hx
  have h:=hgo i x (by omega) hx
  unfold runN
  cases hF:F i x with
  | inl y=>
   rw [hF] at h
   obtain ⟨h1,h2⟩:=h
   rw [h1.go]
   exact ih (i+1) y (by omega) h2
  | inr r=>
   rw [hF] at h
   exact h.end
def runL {α X ρ:Type} (f:α→X→X ⊕ ρ) (R:X→ρ):List α→X→ρ
 | [],x=>R x
 | a::l,x=>match f a x with
  | .inl y=>runL f R l y
  | .inr r=>r
theorem loop_each {α X ρ:Type} {d:ρ} {step:Int × X→Bool × Bool × (Int × X) × ρ} (l:List α) (I:Nat→X→Prop) (f:α→X→X ⊕ ρ) (R:X→ρ)
  (hgo:∀ (i:Nat) (hi:i<l.length) x,I i x→match f l[i] x with | .inl y=>RGo (step ((i:Int),x)) (((i+1:Nat):Int),y)∧I (i+1) y | .inr r=>REnd (step ((i:Int),x)) r)
  (hend:∀ x,I l.length x→REnd (step ((l.length:Int),x)) (R x)) (x:X) (hx:I 0 x):loopR d step ((0:Int),x)=(true,runL f R l x):=by
 have key:∀ k i x,i+k=l.length→I i x→loopR d step ((i:Int),x)=(true,runL f R (l.drop i) x):=by
  intro k
  induction k with
  | zero=>
   intro i x hi hx
   have:i=l.length:=by omega
   subst this
   rw [List.drop_length]
   exact (hend x hx).end
  | succ k ih=>
   intro i x hi hx
   have hlt:i<l.length:=by omega
   have h:=hgo i hlt x hx
   rw [List.drop_eq_getElem_cons hlt]
   unfold runL
   cases hF:f l[i] x with
   | inl y=>
    rw [hF] at h
    obtain ⟨h1,h2⟩:=h
    rw [h1.go]
    exact ih (i+1) y (by omega) h2
   | inr r=>
    rw [hF] at h
    exact h.end
 have:=key l.length 0 x (by omega) hx
 simpa using this
theorem loop_all {ρ:Type} {d:ρ} {step:Int × Unit→Bool × Bool × (Int × Unit) × ρ} (n:Nat) (P:Nat→Bool) (rb re:ρ)
  (h:∀ i:Nat,i<n→(step ((i:Int),())).1=true∧(step ((i:Int),())).2.1=P i∧(P i=true→(step ((i:Int),())).2.2.1=(((i+1:Nat):Int),()))∧(P i=false→(step ((i:Int),())).2.2.2=rb))
  (hend:(step ((n:Int),())).1=true∧(step ((n:Int),())).2.1=false∧(step ((n:Int),())).2.2.2=re):loopR d step ((0:Int),())=(true,if (List.range n).all P=true then re else rb):=by
 have key:∀ k i:Nat,i+k=n→loopR d step ((i:Int),())=(true,if ((List.range n).drop i).all P=true then re else rb):=by
  intro k
  induction k with
  | zero=>
   intro i hi
   have:i=n:=by omega
   subst this
   obtain ⟨h1,h2,h3⟩:=hend
   rw [if_pos (by rw [List.drop_eq_nil_of_le (by simp)]; rfl)]
   generalize hs:step ((i:Int),())=z at h1 h2 h3
   obtain ⟨a,b,c,e⟩:=z
   simp only at h1 h2 h3
   subst h1; subst h2; subst h3
   exact loopR_end hs
  | succ k ih=>
   intro i hi
   obtain ⟨h1,h2,h3,h4⟩:=h i (by omega)
   have hd:(List.range n).drop i=i::(List.range n).drop (i+1):=by
    rw [List.drop_eq_getElem_cons (by simp; omega)]; simp
   rw [hd,List.all_cons]
   cases hP:P i with
   | true=>
    have h3:=h3 hP
    rw [hP] at h2
    generalize hs:step ((i:Int),())=z at h1 h2 h3
    obtain ⟨a,b,c,e⟩:=z
    simp only at h1 h2 h3
    subst h1; subst h2; subst h3
    rw [loopR_go hs,ih (i+1) (by omega),Bool.true_and]
   | false=>
    have h4:=h4 hP
    rw [hP] at h2
    generalize hs:step ((i:Int),())=z at h1 h2 h4
    obtain ⟨a,b,c,e⟩:=z
    simp only at h1 h2 h4
    subst h1; subst h2; subst h4
    rw [Bool.false_and,if_neg (by simp)]
    exact loopR_end hs
 have:=key n 0 (by omega)
 simpa using this
theorem loop_find {ρ:Type} {d:ρ} {step:Int × Unit→Bool × Bool × (Int × Unit) × ρ} (n:Nat) (P:Nat→Prop) (rh:Nat→ρ) (re:ρ)
  (h:∀ i:Nat,i<n→(P i→REnd (step ((i:Int),())) (rh i))∧(¬ P i→RGo (step ((i:Int),())) (((i+1:Nat):Int),())))
  (hend:REnd (step ((n:Int),())) re):(∃ i,i<n∧P i∧(∀ j,j<i→¬ P j)∧loopR d step ((0:Int),())=(true,rh i))∨((∀ i,i<n→¬ P i)∧loopR d step ((0:Int),())=(true,re)):=by
 have key:∀ k i:Nat,i+k=n→(∀ j,j<i→¬ P j)→(∃ i',i'<n∧P i'∧(∀ j,j<i'→¬ P j)∧loopR d step ((i:Int),())=(true,rh i'))∨((∀ i,i<n→¬ P i)∧loopR d step ((i:Int),())=(true,re)):=by
  intro k
  induction k with
  | zero=>
   intro i hi hj
   have:i=n:=by omega
   subst this
   exact .inr ⟨hj,hend.end⟩
  | succ k ih=>
   intro i hi hj
   by_cases hP:P i
   ·exact .inl ⟨i,by omega,hP,hj,((h i (by omega)).1 hP).end⟩
   ·rw [((h i (by omega)).2 hP).go]
    exact ih (i+1) (by omega) (fun j hjl=>by
     rcases Nat.lt_or_ge j i with hlt | hge
     ·exact hj j hlt
     ·have:j=i:=by omega
      rw [this]; exact hP)
 have:=key n 0 (by omega) (fun j hj=>by omega)
 simpa using this
theorem loopD_eq {σ ρ:List Ty} (tag:Nat) (step:HL σ→BoolD × BoolD × HL σ × HL ρ) (x:HL σ):loopD tag σ ρ step x=loopR (HL.dflt ρ) step x:=rfl
theorem loop_acc {α β ρ:Type} {d:ρ} {step:Int × List β × Unit→Bool × Bool × (Int × List β × Unit) × ρ} (l:List α) (g:α→List β) (N:Nat) (R:List β→ρ)
  (hgo:∀ (i:Nat) (hi:i<l.length) (acc:List β),acc.length+(g l[i]).length≤N→RGo (step ((i:Int),acc,())) (((i+1:Nat):Int),acc++g l[i],()))
  (hend:∀ acc:List β,acc.length≤N→REnd (step ((l.length:Int),acc,())) (R acc)) (acc:List β) (h:acc.length+(l.flatMap g).length≤N):loopR d step ((0:Int),acc,())=(true,R (acc++l.flatMap g)):=by
 have key:∀ (k i:Nat) (acc:List β),i+k=l.length→acc.length+((l.drop i).flatMap g).length≤N→loopR d step ((i:Int),acc,())=(true,R (acc++(l.drop i).flatMap g)):=by
  intro k
  induction k with
  | zero=>
   intro i acc hi hN
   have:i=l.length:=by omega
   subst this
   rw [List.drop_length] at hN ⊢
   simp only [List.flatMap_nil,List.length_nil,Nat.add_zero,List.append_nil] at hN ⊢
   exact (hend acc hN).end
  | succ k ih=>
   intro i acc hi hN
   have hlt:i<l.length:=by omega
   rw [List.drop_eq_getElem_cons hlt,List.flatMap_cons] at hN ⊢
   rw [List.length_append] at hN
   rw [(hgo i hlt acc (by omega)).go,ih (i+1) (acc++g l[i]) (by omega) (by rw [List.length_append]; omega),List.append_assoc]
 have:=key l.length 0 acc (by omega) (by simpa using h)
 simpa using this
theorem flatMap_length_le {α β:Type} (g:α→List β) (k:Nat):∀ l:List α,(∀ a∈l,(g a).length≤k)→(l.flatMap g).length≤l.length*k
 | [],_=>by simp
 | a::l,h=>by
  rw [List.flatMap_cons,List.length_append,List.length_cons,Nat.add_mul]
  have h1:=h a (.head _)
  have h2:=flatMap_length_le g k l (fun b hb=>h b (.tail _ hb))
  omega
theorem flatMap_none {α β:Type} (g:α→List β):∀ l:List α,(∀ a∈l,g a= [])→l.flatMap g= []
 | [],_=>rfl
 | a::l,h=>by rw [List.flatMap_cons,h a (.head _),flatMap_none g l (fun b hb=>h b (.tail _ hb))]; rfl
theorem flatMap_one {α β:Type} (g:α→List β) (l:List α) (i:Nat) (hi:i<l.length) (h:∀ j (hj:j<l.length),j≠i→g l[j]= []):l.flatMap g=g l[i]:=by
 have e:l=l.take i++l[i]::l.drop (i+1):=by rw [List.getElem_cons_drop,List.take_append_drop]
 conv=>lhs; rw [e]
 rw [List.flatMap_append,List.flatMap_cons]
 rw [flatMap_none g (l.take i) (fun a ha=>by
  obtain ⟨j,hj,rfl⟩:=List.getElem_of_mem ha
  rw [List.length_take] at hj
  rw [List.getElem_take]
  exact h j (by omega) (by omega)),flatMap_none g (l.drop (i+1)) (fun a ha=>by
  obtain ⟨j,hj,rfl⟩:=List.getElem_of_mem ha
  rw [List.length_drop] at hj
  rw [List.getElem_drop]
  exact h _ (by omega) (by omega))]
 simp
theorem delete_loop {α ρ:Type} {d:ρ} {step:Int × Int × List α × Unit→Bool × Bool × (Int × Int × List α × Unit) × ρ} (q:α→Bool) (L0:List α) (i0:Nat) (hi0:i0<L0.length) (hfirst:∀ j (h:j<i0),q L0[j]=true) (hat:q L0[i0]=false) (R:Int→List α→ρ)
  (hgo:∀ (j i:Nat) (L:List α) (hj:j<L.length),i<L.length→L.length=L0.length→RGo (step ((j:Int),(i:Int),L,())) (((j+1:Nat):Int),((if q L[j] then i+1 else i:Nat):Int),(if q L[j] then L.set i L[j] else L),()))
  (hend:∀ (i:Nat) (L:List α),L.length=L0.length→i<L.length→REnd (step ((L0.length:Int),(i:Int),L,())) (R i L)):
  ∃ (i:Nat) (L:List α),loopR d step (((i0+1:Nat):Int),(i0:Int),L0,())=(true,R i L)∧L.length=L0.length∧i<L.length∧L.take i=L0.filter q:=by
 have key:∀ k j i:Nat,∀ L:List α,j+k=L0.length→i<j→L.length=L0.length→L.take i=(L0.take j).filter q→L.drop j=L0.drop j→
   ∃ (i':Nat) (L':List α),loopR d step ((j:Int),(i:Int),L,())=(true,R i' L')∧L'.length=L0.length∧i'<L'.length∧L'.take i'=L0.filter q:=by
  intro k
  induction k with
  | zero=>
   intro j i L hj hij hl ht hd
   have:j=L0.length:=by omega
   subst this
   exact ⟨i,L,(hend i L hl (by omega)).end,hl,by omega,by rw [ht,List.take_length]⟩
  | succ k ih=>
   intro j i L hj hij hl ht hd
   have hjl:j<L.length:=by omega
   rw [(hgo j i L hjl (by omega) hl).go]
   have he:L[j]=L0[j]:=by
    have h1:(L.drop j)[0]? =(L0.drop j)[0]? :=by rw [hd]
    simp only [List.getElem?_drop,Nat.add_zero] at h1
    rw [List.getElem?_eq_getElem hjl,List.getElem?_eq_getElem (by omega)] at h1
    exact Option.some.inj h1
   have hdn:L.drop (j+1)=L0.drop (j+1):=by
    have:=congrArg (List.drop 1) hd
    simpa [List.drop_drop,Nat.add_comm] using this
   have htk:(L0.take (j+1)).filter q=(L0.take j).filter q++(if q L0[j] then [L0[j]] else []):=by
    rw [List.take_add_one,List.filter_append,List.getElem?_eq_getElem (by omega)]
    simp only [Option.toList]
    cases hq:q L0[j]<;>simp [hq]
   cases hq:q L[j] with
   | true=>
    simp only [if_true]
    refine ih (j+1) (i+1) (L.set i L[j]) (by omega) (by omega) (by simpa using hl) ?_ ?_
    ·rw [htk,← he,hq]
     simp only [if_true]
     rw [← ht,List.take_add_one,List.take_set_of_le (Nat.le_refl i),List.getElem?_set_self (by omega)]
     rfl
    ·rw [List.drop_set_of_lt (by omega)]; exact hdn
   | false=>
    simp only [Bool.false_eq_true,if_false]
    refine ih (j+1) i L (by omega) (by omega) hl ?_ hdn
    rw [htk,← he,hq]
    simp [ht]
 refine key (L0.length - (i0+1)) (i0+1) i0 L0 (by omega) (by omega) rfl ?_ rfl
 rw [List.take_add_one,List.getElem?_eq_getElem hi0,List.filter_append]
 have h1:(L0.take i0).filter q=L0.take i0:=by
  rw [List.filter_eq_self]
  intro a ha
  obtain ⟨j,hj,rfl⟩:=List.getElem_of_mem ha
  rw [List.length_take] at hj
  rw [List.getElem_take]
  exact hfirst j (by omega)
 rw [h1]
 simp [hat]
open Classical in
theorem mapGet_put {k v:Ty} (hb:∀ a b:k.den,Ty.beq k a b=true↔a=b) (L:(Ty.fl (.prod k v)).den) (x:k.den) (y:v.den) (x':k.den) (d:v.den):mapGet (mapPut L x y) x' d=if x'=x then y else mapGet L x' d:=by
 have hF:∀ a b:k.den,¬ a=b→Ty.beq k a b=false:=fun a b h=>Bool.eq_false_iff.2 fun hh=>h ((hb a b).1 hh)
 have hT:∀ a:k.den,Ty.beq k a a=true:=fun a=>(hb a a).2 rfl
 induction L with
 | nil=>
  by_cases h:x'=x
  ·subst h; simp [mapPut,mapGet,hT]
  ·simp [mapPut,mapGet,hF _ _ h,h]
 | cons p l ih=>
  by_cases hp:x=p.1
  ·have e:mapPut (p::l) x y=(x,y)::l:=by simp [mapPut,(hb _ _).2 hp]
   rw [e]
   by_cases h:x'=x
   ·subst h; simp [mapGet,hT]
   ·have h2:¬ x'=p.1:=fun hh=>h (hh.trans hp.symm)
    simp [mapGet,hF _ _ h,h,hF _ _ h2]
  ·have e:mapPut (p::l) x y=p::mapPut l x y:=by simp [mapPut,hF _ _ hp]
   rw [e]
   by_cases h2:x'=p.1
   ·have h:¬ x'=x:=fun hh=>hp (hh.symm.trans h2)
    simp [mapGet,(hb _ _).2 h2,h]
   ·have e1:mapGet (p::mapPut l x y) x' d=mapGet (mapPut l x y) x' d:=by simp [mapGet,hF _ _ h2]
    have e2:mapGet (p::l) x' d=mapGet l x' d:=by simp [mapGet,hF _ _ h2]
    rw [e1,e2,ih]
end Go.Tm
