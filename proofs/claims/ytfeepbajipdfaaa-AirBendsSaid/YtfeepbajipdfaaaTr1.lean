/- A machine of plain data, part 1: what Go's code does, told by functions that Lean reckons out. It states nothing of any program. -/
import GoSem.Claim
import Derived.Calls
import Derived.Laws.IdiomCopy
import Derived.Below
import Derived.Deep.MidRow
import Derived.ArgAppend
import Derived.RowKit3
import Derived.Laws.StructEq
import Derived.IntWalk
import Derived.Laws.Slices
import Derived.MapKept
import Derived.Orders
namespace Go.Vm
set_option linter.unusedVariables false
inductive C where
 | sc (v:Value)
 | sl (n:Nat) (cs:List C)
 | loc (cs:List C) (off:Nat)
 | ar (id ver off n:Nat)
 | ptr (id ver off:Nat)
 | fn (f:FuncId) (caps:List C)
 | mp (id:Nat)
 | dead
 deriving Inhabited
inductive V where
 | one (c:C)
 | agg (cs:List C)
 deriving Inhabited
inductive D where
 | v (x:V)
 | tup (xs:List V)
 | dead
 deriving Inhabited
inductive Ob where
 | cells (sz ver:Nat) (cs:List C) (fz:Bool)
 | map (es:List (Value × V))
 | gone
 deriving Inhabited
mutual
def plain:C→Bool
 | .ar .. =>false
 | .ptr .. =>false
 | .mp .. =>false
 | .fn _ caps=>plains caps
 | _=>true
def plains:List C→Bool
 | []=>true
 | c::cs=>plain c && plains cs
end
def Ob.fit (o:Ob) (ver:Nat):Bool:=match o with | .cells _ v _ _=>v==ver | .map _=>false | .gone=>false
def V.flat:V→Bool
 | .one c=>plain c
 | .agg cs=>plains cs
section
variable (β:Nat→Option (Nat × Nat)) (H:List Ob) (S:Nat→Nat→Prop) (w:World)
def ArSays (id ver off n:Nat) (u:Value):Prop:=
 id<H.length∧∀ sz ver' cs fz,H[id]? =some (.cells sz ver' cs fz)→ver≤ver'∧(ver=ver'→off+n*sz≤cs.length∧
  ((n=0∧cs.length≤off∧∃ a,u=.slice a 0 0)∨
   ∃ b o cap e arr fr,β id=some (b,o)∧u=.slice (some ⟨b,o+off,none⟩) n cap∧n≤cap∧w.heap[b]? =some (.cells arr e fr)∧o+off+cap*sz≤arr.size∧cs.length≤off+cap*sz))
def PtrSays (id ver off:Nat) (u:Value):Prop:=
 id<H.length∧∀ sz ver' cs fz,H[id]? =some (.cells sz ver' cs fz)→ver≤ver'∧(ver=ver'→∃ b o,β id=some (b,o)∧u=.pointer (some ⟨b,o+off,none⟩))
def MpSays (id:Nat) (u:Value):Prop:=
 id<H.length∧∀ es,H[id]? =some (.map es)→∃ b,β id=some (b,0)∧u=.map (some b)
mutual
def RelP:C→Value→Prop
 | .sc v,u=>u=v∧v.oneCell'=true
 | .sl n cs,u=>∃ a cap,u=.slice a n cap∧n≤cap∧(a=none→cap=0)∧((n=0∧cs= [])∨∃ b o,a=some ⟨b,o,none⟩∧RelAt cs b o)
 | .loc cs off,u=>∃ b o,u=.pointer (some ⟨b,o+off,none⟩)∧RelAt cs b o
 | .ar _ _ _ _,_=>False
 | .ptr _ _ _,_=>False
 | .mp _,_=>False
 | .fn f caps,u=>∃ us,u=.func (.func f) #[] us∧RelPL caps us.toList
 | .dead,u=>u.oneCell'=true
def RelAt:List C→Nat→Nat→Prop
 | [],_,_=>True
 | c::cs,b,o=>S b o∧(∃ u,w.cell? ⟨b,o,none⟩=some u∧RelP c u)∧RelAt cs b (o+1)
def RelPL:List C→List Value→Prop
 | [],us=>us= []
 | c::cs,us=>∃ u us',us=u::us'∧RelP c u∧RelPL cs us'
end
mutual
def RelC:C→Value→Prop
 | .sc v,u=>RelP S w (.sc v) u
 | .sl n cs,u=>RelP S w (.sl n cs) u
 | .loc cs off,u=>RelP S w (.loc cs off) u
 | .dead,u=>RelP S w .dead u
 | .ar id ver off n,u=>(∃ a n cap,u=.slice a n cap)∧ArSays β H w id ver off n u
 | .ptr id ver off,u=>(∃ a,u=.pointer a)∧PtrSays β H id ver off u
 | .mp id,u=>(∃ a,u=.map a)∧MpSays β H id u
 | .fn f caps,u=>∃ us,u=.func (.func f) #[] us∧RelL caps us.toList
def RelL:List C→List Value→Prop
 | [],us=>us= []
 | c::cs,us=>∃ u us',us=u::us'∧RelC c u∧RelL cs us'
end
def RelV:V→Value→Prop
 | .one c,u=>RelC β H S w c u
 | .agg cs,u=>∃ us,u=.agg us∧RelL β H S w cs us.toList
def MapRel (es:List (Value × V)) (l:List MapEntry):Prop:=
 es.length=l.length∧∀ (j:Nat) (k:Value) (x:V),es[j]? =some (k,x)→x.flat=true∧∃ e,l[j]? =some e∧e.key=k∧RelV β H S w x e.val
def RelVs:List V→List Value→Prop
 | [],us=>us= []
 | x::xs,us=>∃ u us',us=u::us'∧RelV β H S w x u∧RelVs xs us'
def RelD:D→Value→Prop
 | .v x,u=>RelV β H S w x u
 | .tup xs,u=>∃ us,u=.tuple us∧RelVs β H S w xs us.toList
 | .dead,_=>True
def RelDs:List D→List Value→Prop
 | [],us=>us= []
 | x::xs,us=>∃ u us',us=u::us'∧RelD β H S w x u∧RelDs xs us'
structure HRel (Wr:Nat→Prop):Prop where
 cells:∀ id sz ver cs fz,H[id]? =some (.cells sz ver cs fz)→(0<sz∧(ver≠0→∀ c∈cs,plain c=true))∧((β id=none∧cs= [])∨∃ b o arr e,β id=some (b,o)∧w.heap[b]? =some (.cells arr e (0,0))∧Wr b∧o+cs.length≤arr.size∧
  (∀ j c,cs[j]? =some c→∃ u,w.cell? ⟨b,o+j,none⟩=some u∧RelC β H S w c u)∧(∀ k,S b k→k<o+(if fz then cs.length else 0)))
 inj:∀ id id' sz ver cs fz sz' ver' cs' fz' b o o',H[id]? =some (.cells sz ver cs fz)→H[id']? =some (.cells sz' ver' cs' fz')→β id=some (b,o)→β id'=some (b,o')→id=id'
 imm:∀ b o,S b o→b<w.heap.size
 maps:∀ id es,H[id]? =some (.map es)→∃ b arr clock,β id=some (b,0)∧w.heap[b]? =some (.map arr clock)∧Wr b∧MapRel β H S w es arr.toList
 injm:∀ id id' es es' b o o',H[id]? =some (.map es)→H[id']? =some (.map es')→β id=some (b,o)→β id'=some (b,o')→id=id'
end
structure Evo (Wr:Nat→Prop) (S:Nat→Nat→Prop) (w w':World):Prop where
 os:w'.os=w.os
 tape:w'.tape=w.tape
 output:w'.output=w.output
 size:w.heap.size≤w'.heap.size
 block:∀ b,b<w.heap.size→¬ Wr b→w'.heap[b]? =w.heap[b]?
 imm:∀ b o,S b o→w'.cell? ⟨b,o,none⟩=w.cell? ⟨b,o,none⟩
 shape:∀ (b:Nat) (arr:Array Value) (e:TypeId) (fr:Nat × Nat),w.heap[b]? =some (.cells arr e fr)→∃ (arr':Array Value) (fr':Nat × Nat),w'.heap[b]? =some (.cells arr' e fr')∧arr'.size=arr.size
structure Ext (β:Nat→Option (Nat × Nat)) (H:List Ob) (S:Nat→Nat→Prop) (β':Nat→Option (Nat × Nat)) (H':List Ob) (S':Nat→Nat→Prop):Prop where
 len:H.length≤H'.length
 ids:∀ id sz ver cs' fz',id<H.length→H'[id]? =some (.cells sz ver cs' fz')→∃ ver0 cs fz,H[id]? =some (.cells sz ver0 cs fz)∧ver0≤ver∧(ver0=ver→cs.length=cs'.length∧β' id=β id)
 mps:∀ id es',id<H.length→H'[id]? =some (.map es')→∃ es,H[id]? =some (.map es)∧β' id=β id
 sub:∀ b o,S b o→S' b o
theorem Evo.refl (Wr:Nat→Prop) (S:Nat→Nat→Prop) (w:World):Evo Wr S w w:=
 ⟨rfl,rfl,rfl,Nat.le_refl _,fun _ _ _=>rfl,fun _ _ _=>rfl,fun _ arr _ fr h=>⟨arr,fr,h,rfl⟩⟩
theorem Evo.trans {Wr:Nat→Prop} {S S':Nat→Nat→Prop} {a b c:World} (h:Evo Wr S a b) (k:Evo Wr S' b c) (hs:∀ b o,S b o→S' b o):Evo Wr S a c where
 os:=k.os.trans h.os
 tape:=k.tape.trans h.tape
 output:=k.output.trans h.output
 size:=Nat.le_trans h.size k.size
 block:=fun x hx hw=>(k.block x (Nat.lt_of_lt_of_le hx h.size) hw).trans (h.block x hx hw)
 imm:=fun x o hs'=>(k.imm x o (hs x o hs')).trans (h.imm x o hs')
 shape:=fun x arr e fr hx=>by
  obtain ⟨arr1,fr1,h1,e1⟩:=h.shape x arr e fr hx
  obtain ⟨arr2,fr2,h2,e2⟩:=k.shape x arr1 e fr1 h1
  exact ⟨arr2,fr2,h2,e2.trans e1⟩
theorem Ext.refl (β:Nat→Option (Nat × Nat)) (H:List Ob) (S:Nat→Nat→Prop):Ext β H S β H S:=
 ⟨Nat.le_refl _,fun id sz ver cs fz _ h=>⟨ver,cs,fz,h,Nat.le_refl _,fun _=>⟨rfl,rfl⟩⟩,fun _ es _ h=>⟨es,h,rfl⟩,fun _ _ h=>h⟩
theorem Ext.trans {β β' β'':Nat→Option (Nat × Nat)} {H H' H'':List Ob} {S S' S'':Nat→Nat→Prop} (h:Ext β H S β' H' S') (k:Ext β' H' S' β'' H'' S''):Ext β H S β'' H'' S'' where
 len:=Nat.le_trans h.len k.len
 ids:=fun id sz ver cs fz hlt hH=>by
  obtain ⟨v1,c1,f1,e1,l1,k1⟩:=k.ids id sz ver cs fz (Nat.lt_of_lt_of_le hlt h.len) hH
  obtain ⟨v0,c0,f0,e0,l0,k0⟩:=h.ids id sz v1 c1 f1 hlt e1
  refine ⟨v0,c0,f0,e0,Nat.le_trans l0 l1,fun he=> ?_⟩
  have h1:v1=ver:=Nat.le_antisymm l1 (he ▸ l0)
  have h0:v0=v1:=by omega
  exact ⟨(k0 h0).1.trans (k1 h1).1,(k1 h1).2.trans (k0 h0).2⟩
 mps:=fun id es' hlt hH=>by
  obtain ⟨es1,e1,b1⟩:=k.mps id es' (Nat.lt_of_lt_of_le hlt h.len) hH
  obtain ⟨es0,e0,b0⟩:=h.mps id es1 hlt e1
  exact ⟨es0,e0,b1.trans b0⟩
 sub:=fun b o hs=>k.sub b o (h.sub b o hs)
section
variable {β β':Nat→Option (Nat × Nat)} {H H':List Ob} {S S':Nat→Nat→Prop} {w w':World} {Wr:Nat→Prop}
theorem ArSays.step (he:Ext β H S β' H' S') (hv:Evo Wr S w w') {id ver off n:Nat} {u:Value} (h:ArSays β H w id ver off n u):ArSays β' H' w' id ver off n u:=by
 obtain ⟨hid,h⟩:=h
 refine ⟨Nat.lt_of_lt_of_le hid he.len,fun sz ver' cs fz hH=> ?_⟩
 obtain ⟨v0,c0,f0,e0,l0,k0⟩:=he.ids id sz ver' cs fz hid hH
 obtain ⟨hle,hs⟩:=h sz v0 c0 f0 e0
 refine ⟨Nat.le_trans hle l0,fun heq=> ?_⟩
 have h0:v0=ver':=by omega
 obtain ⟨hb,hβ⟩:=k0 h0
 obtain ⟨hlen,hs⟩:=hs (by omega)
 refine ⟨hb ▸ hlen,?_⟩
 rcases hs with ⟨h2,h2',h3⟩ | ⟨b,o,cap,e,arr,fr,h1,h2,h3,h4,h5,h6⟩
 ·exact .inl ⟨h2,hb ▸ h2',h3⟩
 ·obtain ⟨arr',fr',ha,hsz⟩:=hv.shape b arr e fr h4
  exact .inr ⟨b,o,cap,e,arr',fr',hβ.trans h1,h2,h3,ha,by omega,hb ▸ h6⟩
theorem PtrSays.step (he:Ext β H S β' H' S') {id ver off:Nat} {u:Value} (h:PtrSays β H id ver off u):PtrSays β' H' id ver off u:=by
 obtain ⟨hid,h⟩:=h
 refine ⟨Nat.lt_of_lt_of_le hid he.len,fun sz ver' cs fz hH=> ?_⟩
 obtain ⟨v0,c0,f0,e0,l0,k0⟩:=he.ids id sz ver' cs fz hid hH
 obtain ⟨hle,hs⟩:=h sz v0 c0 f0 e0
 refine ⟨Nat.le_trans hle l0,fun heq=> ?_⟩
 obtain ⟨hb,hβ⟩:=k0 (by omega)
 obtain ⟨b,o,h1,h2⟩:=hs (by omega)
 exact ⟨b,o,hβ.trans h1,h2⟩
theorem MpSays.step (he:Ext β H S β' H' S') {id:Nat} {u:Value} (h:MpSays β H id u):MpSays β' H' id u:=by
 obtain ⟨hid,h⟩:=h
 refine ⟨Nat.lt_of_lt_of_le hid he.len,fun es hH=> ?_⟩
 obtain ⟨es0,e0,hβ⟩:=he.mps id es hid hH
 obtain ⟨b,h1,h2⟩:=h es0 e0
 exact ⟨b,hβ.trans h1,h2⟩
mutual
theorem RelP.step (hs:∀ b o,S b o→S' b o) (hv:∀ b o,S b o→w'.cell? ⟨b,o,none⟩=w.cell? ⟨b,o,none⟩):∀ (c:C) (u:Value),RelP S w c u→RelP S' w' c u
 | .sc _,_,h=>by simpa only [RelP] using h
 | .sl n cs,u,h=>by
  simp only [RelP] at h ⊢
  obtain ⟨a,cap,h1,h2,h2',h3⟩:=h
  refine ⟨a,cap,h1,h2,h2',?_⟩
  rcases h3 with h3 | ⟨b,o,h3,h4⟩
  ·exact .inl h3
  ·exact .inr ⟨b,o,h3,RelAt.step hs hv cs b o h4⟩
 | .loc cs off,u,h=>by
  simp only [RelP] at h ⊢
  obtain ⟨b,o,h1,h2⟩:=h
  exact ⟨b,o,h1,RelAt.step hs hv cs b o h2⟩
 | .ar ..,_,h=>by simp only [RelP] at h
 | .ptr ..,_,h=>by simp only [RelP] at h
 | .mp ..,_,h=>by simp only [RelP] at h
 | .fn f caps,u,h=>by
  simp only [RelP] at h ⊢
  obtain ⟨us,h1,h2⟩:=h
  exact ⟨us,h1,RelPL.step hs hv caps us.toList h2⟩
 | .dead,_,h=>by simpa only [RelP] using h
theorem RelAt.step (hs:∀ b o,S b o→S' b o) (hv:∀ b o,S b o→w'.cell? ⟨b,o,none⟩=w.cell? ⟨b,o,none⟩):∀ (cs:List C) (b o:Nat),RelAt S w cs b o→RelAt S' w' cs b o
 | [],_,_,_=>by simp only [RelAt]
 | c::cs,b,o,h=>by
  simp only [RelAt] at h ⊢
  obtain ⟨h1,⟨u,h2,h3⟩,h4⟩:=h
  exact ⟨hs b o h1,⟨u,(hv b o h1).trans h2,RelP.step hs hv c u h3⟩,RelAt.step hs hv cs b (o+1) h4⟩
theorem RelPL.step (hs:∀ b o,S b o→S' b o) (hv:∀ b o,S b o→w'.cell? ⟨b,o,none⟩=w.cell? ⟨b,o,none⟩):∀ (cs:List C) (us:List Value),RelPL S w cs us→RelPL S' w' cs us
 | [],_,h=>by simpa only [RelPL] using h
 | c::cs,us,h=>by
  simp only [RelPL] at h ⊢
  obtain ⟨u,us',h1,h2,h3⟩:=h
  exact ⟨u,us',h1,RelP.step hs hv c u h2,RelPL.step hs hv cs us' h3⟩
end
mutual
theorem RelC.step (he:Ext β H S β' H' S') (hv:Evo Wr S w w'):∀ (c:C) (u:Value),RelC β H S w c u→RelC β' H' S' w' c u
 | .sc _,_,h=>by simp only [RelC] at h ⊢; exact RelP.step he.sub hv.imm _ _ h
 | .sl n cs,u,h=>by simp only [RelC] at h ⊢; exact RelP.step he.sub hv.imm _ _ h
 | .loc cs off,u,h=>by simp only [RelC] at h ⊢; exact RelP.step he.sub hv.imm _ _ h
 | .ar id ver off n,u,h=>by
  simp only [RelC] at h ⊢
  exact ⟨h.1,h.2.step he hv⟩
 | .ptr id ver off,u,h=>by
  simp only [RelC] at h ⊢
  exact ⟨h.1,h.2.step he⟩
 | .mp id,u,h=>by
  simp only [RelC] at h ⊢
  exact ⟨h.1,h.2.step he⟩
 | .fn f caps,u,h=>by
  simp only [RelC] at h ⊢
  obtain ⟨us,h1,h2⟩:=h
  exact ⟨us,h1,RelL.step he hv caps us.toList h2⟩
 | .dead,_,h=>by simp only [RelC] at h ⊢; exact RelP.step he.sub hv.imm _ _ h
theorem RelL.step (he:Ext β H S β' H' S') (hv:Evo Wr S w w'):∀ (cs:List C) (us:List Value),RelL β H S w cs us→RelL β' H' S' w' cs us
 | [],_,h=>by simpa only [RelL] using h
 | c::cs,us,h=>by
  simp only [RelL] at h ⊢
  obtain ⟨u,us',h1,h2,h3⟩:=h
  exact ⟨u,us',h1,RelC.step he hv c u h2,RelL.step he hv cs us' h3⟩
end
mutual
theorem RelP.rel {β:Nat→Option (Nat × Nat)} {H:List Ob} {S:Nat→Nat→Prop} {w:World} :∀ (c:C) (u:Value),RelP S w c u→RelC β H S w c u
 | .sc _,_,h=>by simpa only [RelC] using h
 | .sl n cs,u,h=>by simpa only [RelC] using h
 | .loc cs off,u,h=>by simpa only [RelC] using h
 | .ar ..,_,h=>by simp only [RelP] at h
 | .ptr ..,_,h=>by simp only [RelP] at h
 | .mp ..,_,h=>by simp only [RelP] at h
 | .fn f caps,u,h=>by
  simp only [RelP,RelC] at h ⊢
  obtain ⟨us,h1,h2⟩:=h
  exact ⟨us,h1,RelPL.rel caps us.toList h2⟩
 | .dead,_,h=>by simpa only [RelC] using h
theorem RelPL.rel {β:Nat→Option (Nat × Nat)} {H:List Ob} {S:Nat→Nat→Prop} {w:World} :∀ (cs:List C) (us:List Value),RelPL S w cs us→RelL β H S w cs us
 | [],_,h=>by simpa only [RelL,RelPL] using h
 | c::cs,us,h=>by
  simp only [RelL,RelPL] at h ⊢
  obtain ⟨u,us',h1,h2,h3⟩:=h
  exact ⟨u,us',h1,RelP.rel c u h2,RelPL.rel cs us' h3⟩
end
mutual
theorem RelC.plain {β:Nat→Option (Nat × Nat)} {H:List Ob} {S:Nat→Nat→Prop} {w:World} :∀ (c:C) (u:Value),plain c=true→RelC β H S w c u→RelP S w c u
 | .sc _,_,_,h=>by simpa only [RelC] using h
 | .sl n cs,u,_,h=>by simpa only [RelC] using h
 | .loc cs off,u,_,h=>by simpa only [RelC] using h
 | .ar ..,_,hp,_=>by simp [Vm.plain] at hp
 | .ptr ..,_,hp,_=>by simp [Vm.plain] at hp
 | .mp ..,_,hp,_=>by simp [Vm.plain] at hp
 | .fn f caps,u,hp,h=>by
  simp only [RelP,RelC] at h ⊢
  obtain ⟨us,h1,h2⟩:=h
  exact ⟨us,h1,RelL.plain caps us.toList (by simpa [Vm.plain] using hp) h2⟩
 | .dead,_,_,h=>by simpa only [RelC] using h
theorem RelL.plain {β:Nat→Option (Nat × Nat)} {H:List Ob} {S:Nat→Nat→Prop} {w:World} :∀ (cs:List C) (us:List Value),plains cs=true→RelL β H S w cs us→RelPL S w cs us
 | [],_,_,h=>by simpa only [RelL,RelPL] using h
 | c::cs,us,hp,h=>by
  simp only [RelL,RelPL] at h ⊢
  simp only [plains,Bool.and_eq_true] at hp
  obtain ⟨u,us',h1,h2,h3⟩:=h
  exact ⟨u,us',h1,RelC.plain c u hp.1 h2,RelL.plain cs us' hp.2 h3⟩
end
mutual
theorem RelP.isPlain {S:Nat→Nat→Prop} {w:World} :∀ (c:C) (u:Value),RelP S w c u→Vm.plain c=true
 | .sc _,_,_=>rfl
 | .sl _ _,_,_=>rfl
 | .loc _ _,_,_=>rfl
 | .ar ..,_,h=>by simp only [RelP] at h
 | .ptr ..,_,h=>by simp only [RelP] at h
 | .mp ..,_,h=>by simp only [RelP] at h
 | .fn f caps,u,h=>by
  simp only [RelP] at h
  obtain ⟨us,h1,h2⟩:=h
  simp only [Vm.plain]
  exact RelPL.isPlain caps us.toList h2
 | .dead,_,_=>rfl
theorem RelPL.isPlain {S:Nat→Nat→Prop} {w:World} :∀ (cs:List C) (us:List Value),RelPL S w cs us→plains cs=true
 | [],_,_=>rfl
 | c::cs,us,h=>by
  simp only [RelPL] at h
  obtain ⟨u,us',h1,h2,h3⟩:=h
  simp only [plains,Bool.and_eq_true]
  exact ⟨RelP.isPlain c u h2,RelPL.isPlain cs us' h3⟩
end
theorem plains_mem:∀ {cs:List C},plains cs=true↔∀ c∈cs,plain c=true
 | []=>by simp [plains]
 | c::cs=>by simp [plains,plains_mem (cs:=cs)]
theorem RelV.step (he:Ext β H S β' H' S') (hv:Evo Wr S w w'):∀ (x:V) (u:Value),RelV β H S w x u→RelV β' H' S' w' x u
 | .one c,u,h=>RelC.step he hv c u h
 | .agg cs,u,⟨us,h1,h2⟩=>⟨us,h1,RelL.step he hv cs _ h2⟩
theorem MapRel.step (he:Ext β H S β' H' S') (hv:Evo Wr S w w') {es:List (Value × V)} {l:List MapEntry} (h:MapRel β H S w es l):MapRel β' H' S' w' es l:=
 ⟨h.1,fun j k x hx=>by
  obtain ⟨h1,e,h2,h3,h4⟩:=h.2 j k x hx
  exact ⟨h1,e,h2,h3,RelV.step he hv x _ h4⟩⟩
theorem RelVs.step (he:Ext β H S β' H' S') (hv:Evo Wr S w w'):∀ (xs:List V) (us:List Value),RelVs β H S w xs us→RelVs β' H' S' w' xs us
 | [],_,h=>h
 | x::xs,_,⟨u,us',h1,h2,h3⟩=>⟨u,us',h1,RelV.step he hv x u h2,RelVs.step he hv xs us' h3⟩
theorem RelD.step (he:Ext β H S β' H' S') (hv:Evo Wr S w w'):∀ (x:D) (u:Value),RelD β H S w x u→RelD β' H' S' w' x u
 | .v x,u,h=>RelV.step he hv x u h
 | .tup xs,u,⟨us,h1,h2⟩=>⟨us,h1,RelVs.step he hv xs _ h2⟩
 | .dead,_,_=>trivial
theorem RelDs.step (he:Ext β H S β' H' S') (hv:Evo Wr S w w'):∀ (xs:List D) (us:List Value),RelDs β H S w xs us→RelDs β' H' S' w' xs us
 | [],_,h=>h
 | x::xs,_,⟨u,us',h1,h2,h3⟩=>⟨u,us',h1,RelD.step he hv x u h2,RelDs.step he hv xs us' h3⟩
end
theorem RelDs.length {β:Nat→Option (Nat × Nat)} {H:List Ob} {S:Nat→Nat→Prop} {w:World} :∀ {xs:List D} {us:List Value},RelDs β H S w xs us→us.length=xs.length
 | [],_,h=>by simp only [RelDs] at h; simp [h]
 | x::xs,_,⟨u,us',h1,_,h3⟩=>by rw [h1]; simp [RelDs.length h3]
theorem RelDs.get {β:Nat→Option (Nat × Nat)} {H:List Ob} {S:Nat→Nat→Prop} {w:World} :∀ {xs:List D} {us:List Value} (_:RelDs β H S w xs us) (t:Nat),RelD β H S w ((xs[t]?).getD .dead) ((us[t]?).getD undef)
 | [],_,h,t=>by simp only [RelDs] at h; simp [h,RelD]
 | x::xs,_,⟨u,us',h1,h2,h3⟩,0=>by rw [h1]; simpa using h2
 | x::xs,_,⟨u,us',h1,h2,h3⟩,t+1=>by rw [h1]; simpa using RelDs.get h3 t
theorem RelDs.set {β:Nat→Option (Nat × Nat)} {H:List Ob} {S:Nat→Nat→Prop} {w:World} {d:D} {v:Value} (hd:RelD β H S w d v):∀ {xs:List D} {us:List Value} (_:RelDs β H S w xs us) (t:Nat),RelDs β H S w (xs.set t d) (us.set t v)
 | [],_,h,t=>by simp only [RelDs] at h; simp [h,RelDs]
 | x::xs,_,⟨u,us',h1,h2,h3⟩,0=>by rw [h1]; exact ⟨v,us',rfl,hd,h3⟩
 | x::xs,_,⟨u,us',h1,h2,h3⟩,t+1=>by rw [h1]; exact ⟨u,us'.set t v,rfl,h2,RelDs.set hd h3 t⟩
end Go.Vm

namespace Go.Vm
set_option linter.unusedVariables false
inductive Or where
 | br (b:Bool)
 | cells (cs:List C)
 | idx (i:Nat)
 | call (pick:List Nat) (frz:Bool) (res:D) (hp:List Ob)
abbrev FnP:=FuncId→List Ob→List D→D→List Ob→Prop
def litC (v:Value):C:=.sc v
def litV:Value→V
 | .agg cs=>.agg (cs.toList.map .sc)
 | v=>.one (.sc v)
def litOk:Value→Bool
 | .agg cs=>cs.toList.all (·.oneCell')
 | .tuple _=>false
 | _=>true
def lit (v:Value):D:=if litOk v then .v (litV v) else .dead
def V.cells:V→List C
 | .one c=> [c]
 | .agg cs=>cs
def evl (sl:List D):Operand→D
 | .tmp t=>(sl[t]?).getD .dead
 | .const v=>lit v
 | .global _=>.dead
 | .func f=>.v (.one (.fn f []))
def tinfo (P:Program) (t:TypeId):Option (Bool × Nat):=
 match P.underlying t,P.info? t with
 | some (.struct _),some i=>some (true,i.size)
 | some (.array ..),some i=>some (true,i.size)
 | some _,some i=>some (false,i.size)
 | _,_=>none
def wrapV (agg:Bool) (cs:List C):Option V:=
 match agg,cs with
 | true,cs=>some (.agg cs)
 | false,[c]=>some (.one c)
 | _,_=>none
def splice:List C→Nat→List C→List C
 | cs,0,new=>new++cs.drop new.length
 | c::cs,n+1,new=>c::splice cs n new
 | [],_+1,_=> []
abbrev Out:=Option (D × List Ob × List Or × List Prop)
def one (c:C):D:=.v (.one c)
def vInt (k:IntKind) (n:Int):D:=one (.sc (.int k n))
def vBool (b:Bool):D:=one (.sc (.bool b))
def binInt (op:BinOp) (k:IntKind) (a b:Int):Option (D × List Prop):=
 match op with
 | .add=>some (vInt k (k.wrap (a+b)),[])
 | .sub=>some (vInt k (k.wrap (a - b)),[])
 | .mul=>some (vInt k (k.wrap (a*b)),[])
 | .quo=>some (vInt k (k.wrap (a.tdiv b)),[b≠0])
 | .rem=>some (vInt k (a.tmod b),[b≠0])
 | .eql=>some (vBool (a==b),[])
 | .neq=>some (vBool (a !=b),[])
 | .lss=>some (vBool (decide (a<b)),[])
 | .leq=>some (vBool (decide (a≤b)),[])
 | .gtr=>some (vBool (decide (a>b)),[])
 | .geq=>some (vBool (decide (a≥b)),[])
 | .and=>some (vInt k (k.wrap (BitVec.ofInt k.bits a &&& BitVec.ofInt k.bits b).toNat),[])
 | .or=>some (vInt k (k.wrap (BitVec.ofInt k.bits a ||| BitVec.ofInt k.bits b).toNat),[])
 | .xor=>some (vInt k (k.wrap (BitVec.ofInt k.bits a ^^^ BitVec.ofInt k.bits b).toNat),[])
 | .andNot=>some (vInt k (k.wrap (BitVec.ofInt k.bits a &&& ~~~ BitVec.ofInt k.bits b).toNat),[])
 | _=>none
def shiftInt (op:BinOp) (k:IntKind) (a b:Int):Option (D × List Prop):=
 match op with
 | .shl=>some (vInt k (k.wrap (a*2 ^ (min b.toNat k.bits))),[0≤b])
 | .shr=>some (vInt k (a.fdiv (2 ^ (min b.toNat k.bits))),[0≤b])
 | _=>none
def eqGo (P:Program) (eq:TypeId→List C→List C→Option Bool):List Field→List C→List C→Option Bool
 | [],_,_=>some true
 | f::fs,xs,ys=>
  if f.name≠ "_" then
   match tinfo P f.type with
   | some (_,n)=>
    match eq f.type ((xs.drop f.offset).take n) ((ys.drop f.offset).take n),eqGo P eq fs xs ys with
    | some a,some b=>some (a && b)
    | _,_=>none
   | none=>none
  else none
def eqIn (P:Program):Nat→TypeId→List C→List C→Option Bool
 | 0,_,_,_=>none
 | d+1,t,xs,ys=>
  match P.underlying t,xs,ys with
  | some .bool,[.sc (.bool a)],[.sc (.bool b)]=>some (a==b)
  | some (.int _),[.sc (.int k a)],[.sc (.int k' b)]=>if k=k' then some (a==b) else none
  | some .string,[.sc (.string a)],[.sc (.string b)]=>some (a==b)
  | some (.struct fs),xs,ys=>if P.stoodInHeld t then none else eqGo P (eqIn P d) fs.toList xs ys
  | _,_,_=>none
def eqDepth:Nat:=20
def eqD (P:Program) (hp:List Ob) (t:TypeId) (a b:D):Option Bool:=
 match P.underlying t,a,b with
 | some .bool,.v (.one (.sc (.bool a))),.v (.one (.sc (.bool b)))=>some (a==b)
 | some (.struct fs),.v (.agg xs),.v (.agg ys)=>if P.eqGuardType P.depth t then none else eqIn P eqDepth t xs ys
 | some (.pointer _),.v (.one (.ptr id ver _)),.v (.one (.sc (.pointer none)))=>if (hp[id]?).any (·.fit ver) then some false else none
 | some (.pointer _),.v (.one (.sc (.pointer none))),.v (.one (.ptr id ver _))=>if (hp[id]?).any (·.fit ver) then some false else none
 | some (.pointer _),.v (.one (.sc (.pointer none))),.v (.one (.sc (.pointer none)))=>some true
 | some (.slice _),.v (.one (.sc (.slice (some _) _ _))),.v (.one (.sc (.slice none 0 0)))=>some false
 | some (.slice _),.v (.one (.sc (.slice none _ _))),.v (.one (.sc (.slice none 0 0)))=>some true
 | some (.slice _),.v (.one (.sl n _)),.v (.one (.sc (.slice none 0 0)))=>if n=0 then none else some false
 | _,_,_=>none
def bin (P:Program) (hp:List Ob) (op:BinOp) (t:TypeId) (a b:D):Option (D × List Prop):=
 match op,a,b with
 | .shl,.v (.one (.sc (.int k a))),.v (.one (.sc (.int _ b)))=>shiftInt .shl k a b
 | .shr,.v (.one (.sc (.int k a))),.v (.one (.sc (.int _ b)))=>shiftInt .shr k a b
 | op,.v (.one (.sc (.int k a))),.v (.one (.sc (.int k' b)))=>if k=k' then binInt op k a b else none
 | .eql,.v (.one (.sc (.string a))),.v (.one (.sc (.string b)))=>some (vBool (a==b),[])
 | .neq,.v (.one (.sc (.string a))),.v (.one (.sc (.string b)))=>some (vBool (!(a==b)),[])
 | .eql,a,b=>(eqD P hp t a b).map fun r=>(vBool r,[])
 | .neq,a,b=>(eqD P hp t a b).map fun r=>(vBool (!r),[])
 | _,_,_=>none
def fieldOf (P:Program) (s:TypeId) (f:Nat):Option Field:=
 match P.underlying s with
 | some (.struct fs)=>fs[f]?
 | _=>none
def fillC (place:Nat→Option (Nat × Nat)) (cells:List C):List (Nat × D)→Option (List C)
 | []=>some cells
 | (i,.v x)::rest=>match place i with
  | some (off,size)=>if x.cells.length=size∧off+size≤cells.length then fillC place (splice cells off x.cells) rest else none
  | none=>none
 | _::_=>none
def slOf (hp:List Ob) (sz:Nat):C→Option (Nat × List C)
 | .sc (.slice _ 0 _)=>some (0,[])
 | .sl n cs=>some (n,cs)
 | .ar id ver off n=>match hp[id]? with
  | some (.cells sz' ver' cs _)=>if ver=ver'∧sz=sz'∧ver≠0 then some (n,(cs.drop off).take (n*sz)) else none
  | _=>none
 | _=>none
def appCells (cs:List C) (off k:Nat) (new:List C) (q:Nat):List C:=(cs.drop off).take k++(new++(cs.drop (off+k+new.length)).take q)
def zeroRow (z:Value) (n:Nat):List C:=(List.replicate n (z.cells.toList.map C.sc)).flatten
def elemOf (P:Program) (t:TypeId):Option TypeId:=match P.underlying t with | some (.slice e)=>some e | _=>none
def intOf (d:D):Option Int:=match d with | .v (.one (.sc (.int _ n)))=>some n | _=>none
def bounds (n c:Nat) (ρ:Operand→D) (lo hi mx:Option Operand):Option (Int × Int × List Prop):=
 match lo.map (fun x=>intOf (ρ x)),hi.map (fun x=>intOf (ρ x)),mx.map (fun x=>intOf (ρ x)) with
 | none,none,none=>some (0,n,[])
 | some (some l),none,none=>some (l,n,[0≤l,l≤n])
 | none,some (some h),none=>some (0,h,[0≤h,h≤c])
 | some (some l),some (some h),none=>some (l,h,[0≤l,l≤h,h≤c])
 | none,some (some h),some (some m)=>some (0,h,[0≤h,h≤m,m≤c])
 | some (some l),some (some h),some (some m)=>some (l,h,[0≤l,l≤h,h≤m,m≤c])
 | _,_,_=>none
def noRoom (ρ:Operand→D) (lo hi mx:Option Operand):Bool:=
 match lo,hi.map ρ,mx.map ρ with
 | none,some (.v (.one (.sc (.int _ 0)))),some (.v (.one (.sc (.int _ 0))))=>true
 | _,_,_=>false
def opx (P:Program) (o:Oper) (ρ:Operand→D) (hp:List Ob) (os:List Or):Out:=
 match o.op with
 | .move a | .assign a=>some (ρ a,hp,os,[])
 | .pick c a b=>match os,ρ c with
  | .br t::os,.v (.one (.sc (.bool v)))=>some (cond t (ρ a) (ρ b),hp,os,[v=t])
  | _,_=>none
 | .box _ x=>match ρ x with
  | .v x=>some (one (.ptr hp.length 0 0),hp++ [.cells 1 0 x.cells false],os,[])
  | _=>none
 | .alloc t=>match P.info? t with
  | some i=>match i.zero with
   | some z=>if litOk z then some (one (.ptr hp.length 0 0),hp++ [.cells 1 0 (litV z).cells false],os,[]) else none
   | none=>none
  | none=>none
 | .build t parts=>match P.info? t,P.underlying t with
  | some i,some (.struct fs)=>match i.zero with
   | some z=>if litOk z∧(fs.all fun f=>(P.info? f.type).isSome) then
     (fillC (fun i=>(fs[i]?).map fun f=>(f.offset,((P.info? f.type).map (·.size)).getD 0)) (litV z).cells (parts.toList.map fun (i,x)=>(i,ρ x))).map fun cs=>(.v (.agg cs),hp,os,[])
    else none
   | none=>none
  | some i,some (.array _ e)=>match i.zero,P.info? e with
   | some z,some ie=>if litOk z then
     (fillC (fun i=>some (i*ie.size,ie.size)) (litV z).cells (parts.toList.map fun (i,x)=>(i,ρ x))).map fun cs=>(.v (.agg cs),hp,os,[])
    else none
   | _,_=>none
  | _,_=>none
 | .load t a=>match tinfo P t,ρ a with
  | some (agg,n),.v (.one (.ptr id ver off))=>match hp[id]? with
   | some (.cells _ ver' cs _)=>if ver=ver' then match wrapV agg ((cs.drop off).take n) with
     | some v=>if ((cs.drop off).take n).length=n then some (.v v,hp,os,[]) else none
     | none=>none
    else none
   | _=>none
  | some (agg,n),.v (.one (.loc cs off))=>match os with
   | .cells new::os=>match wrapV agg new with
    | some v=>if new.length=n then some (.v v,hp,os,[(cs.drop off).take n=new]) else none
    | none=>none
   | _=>none
  | _,_=>none
 | .store t a x=>match ρ a,ρ x,P.info? t with
  | .v (.one (.ptr id ver off)),.v x,some i=>match hp[id]? with
   | some (.cells sz ver' cs false)=>if ver=ver'∧x.cells.length=i.size∧off+x.cells.length≤cs.length∧(ver=0∨plains x.cells=true) then
     some (.dead,hp.set id (.cells sz ver (splice cs off x.cells) false),os,[]) else none
   | _=>none
  | _,_,_=>none
 | .nilCheck x=>match ρ x with
  | .v (.one (.ptr id ver off))=>if id<hp.length then some (ρ x,hp,os,[(hp[id]?).all (·.fit ver)=true]) else none
  | .v (.one (.loc cs off))=>some (ρ x,hp,os,[])
  | _=>none
 | .binOp op t a b _=>(bin P hp op t (ρ a) (ρ b)).map fun (d,ps)=>(d,hp,os,ps)
 | .unOp op _ a=>match op,ρ a with
  | .not,.v (.one (.sc (.bool b)))=>some (vBool (!b),hp,os,[])
  | .neg,.v (.one (.sc (.int k n)))=>some (vInt k (k.wrap (0 - n)),hp,os,[])
  | .xor,.v (.one (.sc (.int k n)))=>some (vInt k (k.wrap (BitVec.ofInt k.bits (if k.signed then -1 else k.max) ^^^ BitVec.ofInt k.bits n).toNat),hp,os,[])
  | _,_=>none
 | .convert src dst a=>match P.underlying src,P.underlying dst,ρ a with
  | some _,some (.int k),.v (.one (.sc (.int _ n)))=>some (vInt k (k.wrap n),hp,os,[])
  | some _,some .string,.v (.one (.sc (.string s)))=>some (one (.sc (.string s)),hp,os,[])
  | _,_,_=>none
 | .makeFunc (.func f) first caps=>if first.size=0 then
   match (caps.toList.map ρ).mapM (fun | .v (.one c)=>some c | _=>none) with
   | some cs=>some (one (.fn f cs),hp,os,[])
   | none=>none
  else none
 | .fieldAddr s a f=>match fieldOf P s f,ρ a with
  | some f,.v (.one (.ptr id ver off))=>match P.info? f.type with
   | some i=>if 0<i.size∧(hp[id]?).any (·.fit ver) then some (one (.ptr id ver (off+f.offset)),hp,os,[]) else none
   | none=>none
  | some f,.v (.one (.loc cs off))=>match P.info? f.type with
   | some i=>if 0<i.size then some (one (.loc cs (off+f.offset)),hp,os,[]) else none
   | none=>none
  | _,_=>none
 | .field s a f=>match fieldOf P s f,ρ a with
  | some f,.v (.agg cs)=>match tinfo P f.type with
   | some (agg,n)=>match wrapV agg ((cs.drop f.offset).take n) with
    | some v=>if ((cs.drop f.offset).take n).length=n then some (.v v,hp,os,[]) else none
    | none=>none
   | none=>none
  | _,_=>none
 | .indexAddr t a i=>match P.underlying t,ρ a,ρ i with
  | some (.slice e),.v (.one (.sl n cs)),.v (.one (.sc (.int _ i)))=>match P.info? e with
   | some ie=>some (one (.loc cs (i.toNat*ie.size)),hp,os,[0≤i∧i<n])
   | none=>none
  | some (.slice e),.v (.one (.ar id ver off n)),.v (.one (.sc (.int _ i)))=>match P.info? e,hp[id]? with
   | some ie,some (.cells sz ver' cs _)=>if ver=ver'∧sz=ie.size then some (one (.ptr id ver (off+i.toNat*ie.size)),hp,os,[0≤i∧i<n]) else none
   | _,_=>none
  | some (.array n e),.v (.one (.ptr id ver off)),.v (.one (.sc (.int _ i)))=>match P.info? e,os with
   | some ie,.idx j::os=>if (hp[id]?).any (·.fit ver) then some (one (.ptr id ver (off+j*ie.size)),hp,os,[i=(j:Int),j<n]) else none
   | _,_=>none
  | _,_,_=>none
 | .extract a i=>match ρ a with
  | .tup xs=>match xs[i]? with
   | some x=>some (.v x,hp,os,[])
   | none=>none
  | _=>none
 | .buildSlice t len parts=>match P.underlying t with
  | some (.slice e)=>match P.info? e with
   | some ie=>match ie.zero with
    | some z=>if litOk z∧0<ie.size∧z.cells.size=ie.size∧len*ie.size≤2 ^ 24 then
      match fillC (fun i=>some (i*ie.size,ie.size)) (zeroRow z len) (parts.toList.map fun (i,x)=>(i,ρ x)) with
      | some cs=>if plains cs then some (one (.ar hp.length 1 0 len),hp++ [.cells ie.size 1 cs false],os,[]) else none
      | none=>none
     else none
    | none=>none
   | none=>none
  | _=>none
 | .makeSlice t l c=>match P.underlying t,ρ l,ρ c with
  | some (.slice e),.v (.one (.sc (.int _ n))),.v (.one (.sc (.int _ n')))=>match P.info? e with
   | some ie=>match ie.zero with
    | some z=>if litOk z∧0<ie.size∧z.cells.size=ie.size∧0<ie.bytes then
      some (one (.ar hp.length 1 0 n.toNat),hp++ [.cells ie.size 1 (zeroRow z n.toNat) false],os,[n=n',0≤n,ie.bytes*n≤281474976710656])
     else none
    | none=>none
   | none=>none
  | _,_,_=>none
 | .slice t x lo hi mx=>match P.underlying t,ρ x with
  | some (.slice e),.v (.one c)=>match P.info? e with
   | some ie=>if 0<ie.size then
     if noRoom ρ lo hi mx then
      match slOf hp ie.size c with
      | some _=>some (one (.ar hp.length 1 0 0),hp++ [.cells ie.size 1 [] false],os,[])
      | none=>none
     else match c with
     | .sl n cs=>match bounds n n ρ lo hi mx with
      | some (l,h,ps)=>some (one (.sl (h - l).toNat ((cs.drop (l.toNat*ie.size)).take ((h - l).toNat*ie.size))),hp,os,ps)
      | none=>none
     | .ar id ver off n=>match hp[id]? with
      | some (.cells sz ver' cs _)=>match bounds n ((cs.length - off) / ie.size) ρ lo hi mx with
       | some (l,h,ps)=>if ver=ver'∧sz=ie.size then
        some (one (.ar id ver (off+l.toNat*ie.size) (h - l).toNat),hp,os,ps++ [∀ x m,mx=some x→intOf (ρ x)=some m→cs.length≤off+m.toNat*ie.size]) else none
       | none=>none
      | _=>none
     | _=>none
    else none
   | none=>none
  | some .string,.v (.one (.sc (.string s)))=>match mx,bounds s.size s.size ρ lo hi mx with
   | none,some (l,h,ps)=>some (one (.sc (.string (s.extract l.toNat h.toNat))),hp,os,ps)
   | _,_=>none
  | _,_=>none
 | .call c=>match c.callee with
  | .builtin .append=>match c.args.toList.map ρ,c.argTypes.toList with
   | [.v (.one s),.v (.one x)],[t,t']=>if t=t' then
     match P.underlying t with
     | some (.slice e)=>match P.info? e with
      | some ie=>if 0<ie.size∧0<ie.bytes∧ie.zero.map (·.cells.size)=some ie.size then
        match slOf hp ie.size x with
        | some (m,new)=>match s with
         | .sc (.slice none 0 0)=>some (one (.ar hp.length 1 0 m),hp++ [.cells ie.size 1 new false],os,[new.length=m*ie.size,m*ie.bytes≤140737488355328])
         | .ar id ver off n=>match hp[id]?,os with
          | some (.cells sz ver' cs fz),.idx q::os=>if ver=ver'∧sz=ie.size∧ver≠0 then
            some (one (.ar id (ver+1) 0 (n+m)),hp.set id (.cells ie.size (ver+1) (appCells cs off (n*ie.size) new q) fz),os,[new.length=m*ie.size,fz=true→off+n*ie.size=cs.length,(n+m)*ie.bytes≤140737488355328])
           else none
          | _,_=>none
         | _=>none
        | none=>none
       else none
      | none=>none
     | _=>none
    else none
   | _,_=>none
  | .builtin .clear=>match c.args.toList.map ρ,c.argTypes.toList with
   | [.v (.one (.ar id ver off n))],[t]=>match P.underlying t with
    | some (.slice e)=>match P.info? e with
     | some ie=>match ie.zero with
      | some z=>match hp[id]? with
       | some (.cells sz ver' cs false)=>if litOk z∧z.cells.size=ie.size∧ver=ver'∧sz=ie.size∧ver≠0 then
         some (.dead,hp.set id (.cells sz ver (splice cs off (zeroRow z n)) false),os,[off+n*ie.size≤cs.length]) else none
       | _=>none
      | none=>none
     | none=>none
    | _=>none
   | _,_=>none
  | .builtin .copy=>match c.args.toList.map ρ,c.argTypes.toList with
   | [.v (.one (.ar id ver off n)),.v (.one x)],[t,_]=>match P.underlying t with
    | some (.slice e)=>match P.info? e with
     | some ie=>match slOf hp ie.size x,hp[id]? with
      | some (m,new),some (.cells sz ver' cs false)=>if ver=ver'∧sz=ie.size∧ver≠0 then
        some (vInt .i64 (min m n:Nat),hp.set id (.cells sz ver (splice cs off (new.take (min m n*ie.size))) false),os,[new.length=m*ie.size,off+n*ie.size≤cs.length]) else none
      | _,_=>none
     | none=>none
    | _=>none
   | _,_=>none
  | .builtin .len=>match c.args.toList.map ρ,c.argTypes.toList.map P.underlying with
   | [.v (.one (.sl n _))],[some (.slice _)]=>some (vInt .i64 n,hp,os,[])
   | [.v (.one (.sc (.slice none 0 0)))],[some (.slice _)]=>some (vInt .i64 0,hp,os,[])
   | [.v (.one (.ar id ver _ n))],[some (.slice _)]=>if (hp[id]?).any (·.fit ver) then some (vInt .i64 n,hp,os,[]) else none
   | [.v (.one (.sc (.string s)))],[some .string]=>some (vInt .i64 s.size,hp,os,[])
   | _,_=>none
  | .builtin .min=>match c.args.toList.map ρ with
   | [.v (.one (.sc (.int k a))),.v (.one (.sc (.int _ b)))]=>some (vInt k (if b<a then b else a),hp,os,[])
   | _=>none
  | .builtin .max=>match c.args.toList.map ρ with
   | [.v (.one (.sc (.int k a))),.v (.one (.sc (.int _ b)))]=>some (vInt k (if a<b then b else a),hp,os,[])
   | _=>none
  | _=>none
 | _=>none
end Go.Vm

namespace Go.Vm
set_option linter.unusedVariables false
set_option linter.unusedSimpArgs false
section
variable {β:Nat→Option (Nat × Nat)} {H:List Ob} {S:Nat→Nat→Prop} {w:World} {Wr:Nat→Prop}
theorem RelC.one {c:C} {u:Value} (h:RelC β H S w c u):u.oneCell'=true:=by
 cases c with
 | sc v=>simp only [RelC,RelP] at h; rw [h.1]; exact h.2
 | sl n cs=>simp only [RelC,RelP] at h; obtain ⟨a,cap,rfl,_⟩:=h; rfl
 | loc cs off=>simp only [RelC,RelP] at h; obtain ⟨b,o,rfl,_⟩:=h; rfl
 | ar id ver off n=>simp only [RelC,RelP] at h; obtain ⟨⟨a,n,cap,rfl⟩,_⟩:=h; rfl
 | ptr id ver off=>simp only [RelC,RelP] at h; obtain ⟨⟨a,rfl⟩,_⟩:=h; rfl
 | fn f caps=>simp only [RelC,RelP] at h; obtain ⟨us,rfl,_⟩:=h; rfl
 | mp id=>simp only [RelC,RelP] at h; obtain ⟨⟨a,rfl⟩,_⟩:=h; rfl
 | dead=>simpa only [RelC,RelP] using h
theorem RelC.cells {c:C} {u:Value} (h:RelC β H S w c u):u.cells= #[u]:=by
 have:=h.one
 cases u<;>simp_all [Value.cells,Value.oneCell']
theorem RelL.length:∀ {cs:List C} {us:List Value},RelL β H S w cs us→us.length=cs.length
 | [],_,h=>by simp only [RelL] at h; simp [h]
 | c::cs,_,h=>by
  simp only [RelL] at h
  obtain ⟨u,us',rfl,_,h3⟩:=h
  simp [RelL.length h3]
theorem RelL.get:∀ {cs:List C} {us:List Value},RelL β H S w cs us→∀ (j:Nat) (c:C),cs[j]? =some c→∃ u,us[j]? =some u∧RelC β H S w c u
 | [],_,_,j,c,hc=>by simp at hc
 | c0::cs,_,h,0,c,hc=>by
  simp only [RelL] at h
  obtain ⟨u,us',rfl,h2,h3⟩:=h
  simp at hc; subst hc
  exact ⟨u,rfl,h2⟩
 | c0::cs,_,h,j+1,c,hc=>by
  simp only [RelL] at h
  obtain ⟨u,us',rfl,h2,h3⟩:=h
  simp at hc
  simpa using RelL.get h3 j c hc
theorem RelL.of_get:∀ {cs:List C} {us:List Value},us.length=cs.length→(∀ (j:Nat) (c:C),cs[j]? =some c→∃ u,us[j]? =some u∧RelC β H S w c u)→RelL β H S w cs us
 | [],us,hl,_=>by simp only [RelL]; simpa using hl
 | c::cs,[],hl,_=>by simp at hl
 | c::cs,u::us,hl,h=>by
  simp only [RelL]
  refine ⟨u,us,rfl,?_,RelL.of_get (by simpa using hl) (fun j c' hc=> ?_)⟩
  ·obtain ⟨u',h1,h2⟩:=h 0 c rfl
   simp at h1; subst h1; exact h2
  ·obtain ⟨u',h1,h2⟩:=h (j+1) c' (by simpa using hc)
   exact ⟨u',by simpa using h1,h2⟩
theorem RelL.append:∀ {cs ds:List C} {us vs:List Value},RelL β H S w cs us→RelL β H S w ds vs→RelL β H S w (cs++ds) (us++vs)
 | [],ds,us,vs,h,k=>by simp only [RelL] at h; subst h; simpa using k
 | c::cs,ds,_,vs,h,k=>by
  simp only [RelL] at h
  obtain ⟨u,us',rfl,h2,h3⟩:=h
  simp only [List.cons_append,RelL]
  exact ⟨u,us'++vs,rfl,h2,RelL.append h3 k⟩
theorem RelL.drop:∀ {cs:List C} {us:List Value} (n:Nat),RelL β H S w cs us→RelL β H S w (cs.drop n) (us.drop n)
 | cs,us,0,h=>by simpa using h
 | [],us,n+1,h=>by simp only [RelL] at h; subst h; simp [RelL]
 | c::cs,_,n+1,h=>by
  simp only [RelL] at h
  obtain ⟨u,us',rfl,h2,h3⟩:=h
  simpa using RelL.drop n h3
theorem RelL.take:∀ {cs:List C} {us:List Value} (n:Nat),RelL β H S w cs us→RelL β H S w (cs.take n) (us.take n)
 | cs,us,0,h=>by simp [RelL]
 | [],us,n+1,h=>by simp only [RelL] at h; subst h; simp [RelL]
 | c::cs,_,n+1,h=>by
  simp only [RelL] at h
  obtain ⟨u,us',rfl,h2,h3⟩:=h
  simp only [List.take_succ_cons,RelL]
  exact ⟨u,us'.take n,rfl,h2,RelL.take n h3⟩
theorem RelL.all {cs:List C} {us:List Value} (h:RelL β H S w cs us):∀ u∈us,u.oneCell'=true:=by
 intro u hu
 obtain ⟨j,hj,rfl⟩:=List.mem_iff_getElem.1 hu
 obtain ⟨u',h1,h2⟩:=h.get j (cs[j]'(by rw [← h.length]; exact hj)) (List.getElem?_eq_getElem _)
 rw [List.getElem?_eq_getElem hj] at h1
 injection h1 with h1
 rw [h1]
 exact h2.one
theorem RelL.lit {zs:List Value} (h:∀ u∈zs,u.oneCell'=true):RelL β H S w (zs.map C.sc) zs:=
 RelL.of_get (by simp) (fun j c hc=>by
  simp only [List.getElem?_map,Option.map_eq_some_iff] at hc
  obtain ⟨u,h1,rfl⟩:=hc
  exact ⟨u,h1,by simp only [RelC,RelP]; exact ⟨True.intro,h u (List.mem_of_getElem? h1)⟩⟩)
theorem litOk_cells {v:Value} (h:litOk v=true):∀ u∈v.cells.toList,u.oneCell'=true:=by
 cases v with
 | agg cs=>simpa only [litOk,Value.cells,List.all_eq_true] using h
 | tuple vs=>simp [litOk] at h
 | _=>simp [Value.cells,Value.oneCell']
theorem litV_cells {v:Value} (h:litOk v=true):(litV v).cells=v.cells.toList.map C.sc:=by
 cases v<;>simp_all [litOk,litV,V.cells,Value.cells]
theorem RelV.lit {v:Value} (h:litOk v=true):RelV β H S w (litV v) v:=by
 cases v with
 | agg cs=>exact ⟨cs,rfl,RelL.lit (by simpa only [litOk,List.all_eq_true] using h)⟩
 | tuple vs=>simp [litOk] at h
 | _=>simp [litV,RelV,RelC,RelP,Value.oneCell']
theorem RelD.lit (v:Value):RelD β H S w (lit v) v:=by
 unfold Vm.lit
 split
 ·rename_i h; exact RelV.lit h
 ·trivial
theorem RelV.cells {x:V} {u:Value} (h:RelV β H S w x u):RelL β H S w x.cells u.cells.toList:=by
 cases x with
 | one c=>
  have h':RelC β H S w c u:=h
  rw [h'.cells]
  simp only [V.cells,RelL]
  exact ⟨u,[],rfl,h',rfl⟩
 | agg cs=>obtain ⟨us,rfl,h2⟩:=h; exact h2
theorem RelV.wrap {agg:Bool} {cs:List C} {us:List Value} {v:V} (h:RelL β H S w cs us) (hw:wrapV agg cs=some v):RelV β H S w v (if agg then .agg us.toArray else us.headD undef):=by
 cases agg with
 | true=>simp [wrapV] at hw; subst hw; exact ⟨us.toArray,rfl,by simpa using h⟩
 | false=>
  match cs,hw with
  | [c],hw=>
   simp [wrapV] at hw; subst hw
   simp only [RelL] at h
   obtain ⟨u,us',rfl,h2,rfl⟩:=h
   simpa [RelV] using h2
theorem wrap_one {cs:List C} {v:V} (hw:wrapV false cs=some v):∃ c,cs= [c]:=by
 match cs,hw with
 | [c],_=>exact ⟨c,rfl⟩
def Lies (β:Nat→Option (Nat × Nat)) (H:List Ob) (S:Nat→Nat→Prop) (w:World) (cs:List C) (b o:Nat):Prop:=
 ∀ j c,cs[j]? =some c→∃ u,w.cell? ⟨b,o+j,none⟩=some u∧RelC β H S w c u
theorem Lies.drop {cs:List C} {b o:Nat} (h:Lies β H S w cs b o) (n:Nat):Lies β H S w (cs.drop n) b (o+n):=fun j c hc=>by
 have:=h (n+j) c (by simpa using hc)
 rwa [show o+(n+j)=o+n+j by omega] at this
theorem Lies.take {cs:List C} {b o:Nat} (h:Lies β H S w cs b o) (n:Nat):Lies β H S w (cs.take n) b o:=fun j c hc=>by
 refine h j c ?_
 rw [List.getElem?_take] at hc
 split at hc
 ·exact hc
 ·simp at hc
def LiesP (S:Nat→Nat→Prop) (w:World) (cs:List C) (b o:Nat):Prop:=
 ∀ j c,cs[j]? =some c→∃ u,w.cell? ⟨b,o+j,none⟩=some u∧RelP S w c u
theorem LiesP.lies {cs:List C} {b o:Nat} (h:LiesP S w cs b o):Lies β H S w cs b o:=fun j c hc=>by
 obtain ⟨u,h1,h2⟩:=h j c hc
 exact ⟨u,h1,RelP.rel c u h2⟩
theorem LiesP.drop {cs:List C} {b o:Nat} (h:LiesP S w cs b o) (n:Nat):LiesP S w (cs.drop n) b (o+n):=fun j c hc=>by
 have:=h (n+j) c (by simpa using hc)
 rwa [show o+(n+j)=o+n+j by omega] at this
theorem LiesP.take {cs:List C} {b o:Nat} (h:LiesP S w cs b o) (n:Nat):LiesP S w (cs.take n) b o:=fun j c hc=>by
 refine h j c ?_
 rw [List.getElem?_take] at hc
 split at hc
 ·exact hc
 ·simp at hc
theorem LiesP.plain {cs:List C} {b o:Nat} (h:LiesP S w cs b o):∀ c∈cs,plain c=true:=fun c hc=>by
 obtain ⟨j,hj,rfl⟩:=List.mem_iff_getElem.1 hc
 obtain ⟨u,_,h2⟩:=h j _ (List.getElem?_eq_getElem hj)
 exact RelP.isPlain _ u h2
theorem Lies.plain {cs:List C} {b o:Nat} (h:Lies β H S w cs b o) (hp:∀ c∈cs,plain c=true):LiesP S w cs b o:=fun j c hc=>by
 obtain ⟨u,h1,h2⟩:=h j c hc
 exact ⟨u,h1,RelC.plain c u (hp c (List.mem_of_getElem? hc)) h2⟩
theorem RelAt.liesP:∀ {cs:List C} {b o:Nat},RelAt S w cs b o→LiesP S w cs b o∧∀ j,j<cs.length→S b (o+j)
 | [],b,o,_=>⟨fun j c hc=>by simp at hc,fun j hj=>by simp at hj⟩
 | c::cs,b,o,h=>by
  simp only [RelAt] at h
  obtain ⟨h1,h2,h3⟩:=h
  obtain ⟨k1,k2⟩:=RelAt.liesP h3
  constructor
  ·intro j c' hc
   cases j with
   | zero=>simp at hc; subst hc; exact h2
   | succ j=>have:=k1 j c' (by simpa using hc); rwa [show o+1+j=o+(j+1) by omega] at this
  ·intro j hj
   cases j with
   | zero=>exact h1
   | succ j=>have:=k2 j (by simpa using hj); rwa [show o+1+j=o+(j+1) by omega] at this
theorem RelAt.lies {cs:List C} {b o:Nat} (h:RelAt S w cs b o):Lies β H S w cs b o∧∀ j,j<cs.length→S b (o+j):=
 ⟨h.liesP.1.lies,h.liesP.2⟩
theorem RelAt.of_liesP:∀ {cs:List C} {b o:Nat},LiesP S w cs b o→(∀ j,j<cs.length→S b (o+j))→RelAt S w cs b o
 | [],b,o,_,_=>by simp only [RelAt]
 | c::cs,b,o,h,hs=>by
  simp only [RelAt]
  refine ⟨by simpa using hs 0 (by simp),by simpa using h 0 c rfl,RelAt.of_liesP (fun j c' hc=> ?_) (fun j hj=> ?_)⟩
  ·have:=h (j+1) c' (by simpa using hc); rwa [show o+(j+1)=o+1+j by omega] at this
  ·have:=hs (j+1) (by simpa using hj); rwa [show o+(j+1)=o+1+j by omega] at this
theorem Lies.values {cs:List C} {b o:Nat} (h:Lies β H S w cs b o):∃ us:List Value,RelL β H S w cs us∧∀ j u,us[j]? =some u→w.cell? ⟨b,o+j,none⟩=some u:=by
 refine ⟨(List.range cs.length).map fun j=>(w.cell? ⟨b,o+j,none⟩).getD undef,RelL.of_get (by simp) (fun j c hc=> ?_),fun j u hu=> ?_⟩
 ·obtain ⟨u,h1,h2⟩:=h j c hc
  have hj:j<cs.length:=(List.getElem?_eq_some_iff.1 hc).1
  exact ⟨u,by simp [hj,h1],h2⟩
 ·simp only [List.getElem?_map,Option.map_eq_some_iff] at hu
  obtain ⟨k,hk,rfl⟩:=hu
  have hj:j<cs.length:=by
   have:=(List.getElem?_eq_some_iff.1 hk).1
   simpa using this
  rw [List.getElem?_range hj] at hk
  injection hk with hk
  subst hk
  obtain ⟨u,h1,_⟩:=h j cs[j] (List.getElem?_eq_getElem hj)
  simp [h1]
theorem run_loadVar_lies {P:Program} {t:TypeId} {agg:Bool} {n:Nat} {cs:List C} {b o:Nat} {v:V} (ht:tinfo P t=some (agg,n)) (h:Lies β H S w cs b o) (hl:cs.length=n) (hw:wrapV agg cs=some v):
  ∃ u,(loadVar t ⟨b,o,none⟩).run P w=.ok u w∧RelV β H S w v u:=by
 obtain ⟨us,h1,h2⟩:=h.values
 have hus:us.length=n:=by rw [h1.length,hl]
 have hv:=RelV.wrap h1 hw
 unfold tinfo at ht
 have hrow:∀ d i,P.underlying t=some d→d.isRow=true→P.info? t=some i→i.size=n→(loadVar t ⟨b,o,none⟩).run P w=.ok (.agg us.toArray) w:=fun d i hd hr hi hn=>
  run_loadVar_mid w b o t us d (fun j u hu=>h2 j u hu) hd hr (by rw [hi]; simp [hn,hus])
 split at ht
 ·rename_i d i hd hi
  simp only [Option.some.injEq,Prod.mk.injEq] at ht
  obtain ⟨rfl,rfl⟩:=ht
  exact ⟨_,hrow _ _ hd rfl hi rfl,by simpa using hv⟩
 ·rename_i d i hd hi
  simp only [Option.some.injEq,Prod.mk.injEq] at ht
  obtain ⟨rfl,rfl⟩:=ht
  exact ⟨_,hrow _ _ hd rfl hi rfl,by simpa using hv⟩
 ·rename_i d i h1' h2' hd hi
  simp only [Option.some.injEq,Prod.mk.injEq] at ht
  obtain ⟨rfl,rfl⟩:=ht
  obtain ⟨c,rfl⟩:=wrap_one hw
  obtain ⟨u,us',hu,_,_⟩:=(by simpa only [RelL] using h1:∃ u us',us=u::us'∧RelC β H S w c u∧us'= [])
  have hc:=h2 0 u (by simp [hu])
  refine ⟨u,?_,by simpa [hu] using hv⟩
  have hagg:(isAgg t).run P w=.ok false w:=by
   unfold isAgg
   rw [Sem.run_bind,run_underlying hd w]
   cases d with
   | struct fs=>exact absurd rfl (h1' fs)
   | array m e=>exact absurd rfl (h2' m e)
   | _=>rfl
  simp only [Nat.add_zero] at hc
  simp [loadVar,hagg,hc]
 ·cases ht
end
end Go.Vm

namespace Go.Vm
set_option linter.unusedVariables false
def upd (β:Nat→Option (Nat × Nat)) (id:Nat) (p:Option (Nat × Nat)):Nat→Option (Nat × Nat):=fun i=>if i=id then p else β i
theorem upd_same (β:Nat→Option (Nat × Nat)) (id:Nat) (p:Option (Nat × Nat)):upd β id p id=p:=by simp [upd]
theorem upd_other (β:Nat→Option (Nat × Nat)) {id i:Nat} (p:Option (Nat × Nat)) (h:i≠id):upd β id p i=β i:=by simp [upd,h]
theorem length_splice:∀ (cs:List C) (off:Nat) (new:List C),off+new.length≤cs.length→(splice cs off new).length=cs.length
 | cs,0,new,h=>by simp [splice]; simp at h; omega
 | c::cs,n+1,new,h=>by
  simp only [splice,List.length_cons]
  rw [length_splice cs n new (by simp at h; omega)]
 | [],n+1,new,h=>by simp at h
theorem get_splice:∀ (cs:List C) (off:Nat) (new:List C),off+new.length≤cs.length→∀ j,(splice cs off new)[j]? =if j<off then cs[j]? else if j<off+new.length then new[j - off]? else cs[j]?
 | cs,0,new,h,j=>by
  simp only [splice,Nat.not_lt_zero,if_false,Nat.zero_add,Nat.sub_zero]
  by_cases hj:j<new.length
  ·rw [if_pos hj,List.getElem?_append_left hj]
  ·rw [if_neg hj,List.getElem?_append_right (by omega),List.getElem?_drop]
   congr 1; omega
 | c::cs,n+1,new,h,0=>by simp [splice]
 | c::cs,n+1,new,h,j+1=>by
  simp only [splice,List.getElem?_cons_succ]
  rw [get_splice cs n new (by simp at h; omega) j]
  have e1:(j+1<n+1)=(j<n):=by simp
  have e2:(j+1<n+1+new.length)=(j<n+new.length):=by apply propext; omega
  simp only [e1,e2,Nat.add_sub_add_right]
 | [],n+1,new,h,j=>by simp at h
theorem splice_mem {p:C→Prop} :∀ {cs:List C} {off:Nat} {new:List C} {c:C},c∈splice cs off new→(c∈cs→p c)→(c∈new→p c)→p c
 | cs,0,new,c,h,h1,h2=>by
  simp only [splice,List.mem_append] at h
  rcases h with h | h
  ·exact h2 h
  ·exact h1 (List.mem_of_mem_drop h)
 | x::cs,n+1,new,c,h,h1,h2=>by
  simp only [splice,List.mem_cons] at h
  rcases h with h | h
  ·exact h1 (by simp [h])
  ·exact splice_mem h (fun hh=>h1 (by simp [hh])) h2
 | [],n+1,new,c,h,h1,h2=>by simp [splice] at h
theorem heap_setCells_other (b k:Nat) (hk:k≠b):∀ (vs:List Value) (o:Nat) (w:World),(w.setCells b o vs).heap[k]? =w.heap[k]?
 | [],o,w=>rfl
 | v::r,o,w=>by rw [World.setCells,heap_setCells_other b k hk r,RowKit.Below.heap_setCell _ _ _ _ hk]
theorem size_setCells (b:Nat):∀ (vs:List Value) (o:Nat) (w:World),(w.setCells b o vs).heap.size=w.heap.size
 | [],o,w=>rfl
 | v::r,o,w=>by rw [World.setCells,size_setCells b r]; simp [World.setCell]
theorem heap_setCells_same (b:Nat):∀ (vs:List Value) (o:Nat) (w:World) (arr:Array Value) (e:TypeId) (fr:Nat × Nat),w.heap[b]? =some (.cells arr e fr)→
  ∃ arr',(w.setCells b o vs).heap[b]? =some (.cells arr' e fr)∧arr'.size=arr.size
 | [],o,w,arr,e,fr,h=>⟨arr,h,rfl⟩
 | v::r,o,w,arr,e,fr,h=>by
  have h1:(w.setCell ⟨b,o,none⟩ v).heap[b]? =some (.cells (arr.setIfInBounds o v) e fr):=by
   simp [World.setCell,Array.getElem?_modify,h]
  obtain ⟨arr',h2,h3⟩:=heap_setCells_same b r (o+1) _ _ e fr h1
  exact ⟨arr',h2,by rw [h3]; simp⟩
theorem rest_setCells (b:Nat):∀ (vs:List Value) (o:Nat) (w:World),(w.setCells b o vs).os=w.os∧(w.setCells b o vs).tape=w.tape∧(w.setCells b o vs).output=w.output
 | [],o,w=>⟨rfl,rfl,rfl⟩
 | v::r,o,w=>by rw [World.setCells]; exact rest_setCells b r (o+1) _
section
variable {β:Nat→Option (Nat × Nat)} {H:List Ob} {S:Nat→Nat→Prop} {w w':World} {Wr:Nat→Prop}
theorem cell_of_heap {w w':World} {b:Nat} (h:w'.heap[b]? =w.heap[b]?) (o:Nat):w'.cell? ⟨b,o,none⟩=w.cell? ⟨b,o,none⟩:=by
 simp only [World.cell?,h]
theorem Evo.of_heap (hh:w'.heap=w.heap) (h1:w'.os=w.os) (h2:w'.tape=w.tape) (h3:w'.output=w.output):Evo Wr S w w':=
 ⟨h1,h2,h3,by rw [hh]; exact Nat.le_refl _,fun b _ _=>by rw [hh],fun b o _=>cell_of_heap (by rw [hh]) o,fun b arr e fr h=>⟨arr,fr,by rw [hh]; exact h,rfl⟩⟩
theorem Evo.drew (w:World):Evo Wr S w w.drew:=Evo.of_heap rfl rfl rfl rfl
theorem HRel.stay {β':Nat→Option (Nat × Nat)} {H':List Ob} {S':Nat→Nat→Prop} {Wr':Nat→Prop} (h:HRel β H S w Wr) (he:Ext β H S β' H' S') (hv:Evo Wr' S w w') (hm:∀ (id:Nat) (es:List (Value × V)),H'[id]? =some (Ob.map es)→H[id]? =some (Ob.map es))
  (hb:∀ (id:Nat) (es:List (Value × V)) (b:Nat),H[id]? =some (Ob.map es)→β id=some (b,0)→w'.heap[b]? =w.heap[b]?):
  (∀ (id:Nat) (es:List (Value × V)),H'[id]? =some (Ob.map es)→∃ b arr clock,β' id=some (b,0)∧w'.heap[b]? =some (Obj.map arr clock)∧Wr b∧MapRel β' H' S' w' es arr.toList)∧
  (∀ (id id':Nat) (es es':List (Value × V)) (b o o':Nat),H'[id]? =some (Ob.map es)→H'[id']? =some (Ob.map es')→β' id=some (b,o)→β' id'=some (b,o')→id=id'):=by
 have key:∀ (id:Nat) (es:List (Value × V)),H'[id]? =some (Ob.map es)→H[id]? =some (Ob.map es)∧β' id=β id:=fun id es hH=>by
  have h0:=hm id es hH
  obtain ⟨_,_,hβ⟩:=he.mps id es (List.getElem?_eq_some_iff.1 h0).1 hH
  exact ⟨h0,hβ⟩
 refine ⟨fun id es hH=> ?_,fun id id' es es' b o o' h1 h2 h3 h4=> ?_⟩
 ·obtain ⟨h0,hβ⟩:=key id es hH
  obtain ⟨b,arr,clock,k1,k2,k3,k4⟩:=h.maps id es h0
  exact ⟨b,arr,clock,hβ.trans k1,(hb id es b h0 k1).trans k2,k3,k4.step he hv⟩
 ·obtain ⟨g1,e1⟩:=key id es h1
  obtain ⟨g2,e2⟩:=key id' es' h2
  exact h.injm id id' es es' b o o' g1 g2 (e1 ▸ h3) (e2 ▸ h4)
theorem HRel.of_heap (h:HRel β H S w Wr) (hh:w'.heap=w.heap) (h1:w'.os=w.os) (h2:w'.tape=w.tape) (h3:w'.output=w.output):HRel β H S w' Wr where
 cells:=fun id sz ver cs fz hH=>by
  obtain ⟨hsz,h'⟩:=h.cells id sz ver cs fz hH
  refine ⟨hsz,?_⟩
  rcases h' with h' | ⟨b,o,arr,e,k1,k2,k3,k4,k5,k6⟩
  ·exact .inl h'
  ·refine .inr ⟨b,o,arr,e,k1,by rw [hh]; exact k2,k3,k4,fun j c hc=> ?_,k6⟩
   obtain ⟨u,m1,m2⟩:=k5 j c hc
   exact ⟨u,(cell_of_heap (by rw [hh]) _).trans m1,RelC.step (Ext.refl _ _ _) (Evo.of_heap (Wr:=Wr) hh h1 h2 h3) c u m2⟩
 inj:=h.inj
 imm:=fun b o hs=>by rw [hh]; exact h.imm b o hs
 maps:=(h.stay (Ext.refl _ _ _) (Evo.of_heap (Wr:=Wr) hh h1 h2 h3) (fun _ _ hH=>hH) fun _ _ b _ _=>by rw [hh]).1
 injm:=h.injm
theorem HRel.drew (h:HRel β H S w Wr):HRel β H S w.drew Wr:=h.of_heap rfl rfl rfl rfl
theorem Evo.alloc (w:World) (o:Obj) (hi:∀ b k,S b k→b<w.heap.size):Evo Wr S w (w.alloc o) where
 os:=rfl
 tape:=rfl
 output:=rfl
 size:=by simp
 block:=fun b hb _=>RowKit.Below.heap_alloc w o b hb
 imm:=fun b k hs=>cell_of_heap (RowKit.Below.heap_alloc w o b (hi b k hs)) k
 shape:=fun b arr e fr h=>⟨arr,fr,by rw [RowKit.Below.heap_alloc w o b (Array.getElem?_eq_some_iff.1 h).1]; exact h,rfl⟩
theorem ext_push (β:Nat→Option (Nat × Nat)) (H:List Ob) (S:Nat→Nat→Prop) (x:Ob) (p:Option (Nat × Nat)):Ext β H S (upd β H.length p) (H++ [x]) S where
 len:=by simp
 ids:=fun id sz ver cs fz hid hH=>by
  rw [List.getElem?_append_left hid] at hH
  exact ⟨ver,cs,fz,hH,Nat.le_refl _,fun _=>⟨rfl,upd_other β p (by omega)⟩⟩
 mps:=fun id es hid hH=>by
  rw [List.getElem?_append_left hid] at hH
  exact ⟨es,hH,upd_other β p (by omega)⟩
 sub:=fun _ _ h=>h
theorem push_maps {H:List Ob} {x:Ob} (hx:∀ es,x≠Ob.map es):∀ (id:Nat) (es:List (Value × V)),(H++ [x])[id]? =some (Ob.map es)→H[id]? =some (Ob.map es):=fun id es hH=>by
 rcases Nat.lt_or_ge id H.length with hi | hi
 ·rwa [List.getElem?_append_left hi] at hH
 ·have:id=H.length:=by have:=(List.getElem?_eq_some_iff.1 hH).1; simp at this; omega
  subst this
  simp only [List.getElem?_concat_length,Option.some.injEq] at hH
  exact absurd hH (hx es)
theorem HRel.map_lt (h:HRel β H S w Wr) {id b o:Nat} {es:List (Value × V)} (hH:H[id]? =some (Ob.map es)) (hb:β id=some (b,o)):b<w.heap.size:=by
 obtain ⟨b',arr,clock,k1,k2,_⟩:=h.maps id es hH
 rw [k1] at hb; injection hb with hb; injection hb with hb _; subst hb
 exact (Array.getElem?_eq_some_iff.1 k2).1
theorem HRel.alloc (h:HRel β H S w Wr) (hw:Wr w.heap.size) {cs:List C} {us:List Value} (hr:RelL β H S w cs us) (more:List Value) (e:TypeId) (sz ver:Nat) (fz:Bool) (hsz:0<sz) (hpl:ver≠0→∀ c∈cs,plain c=true):
  HRel (upd β H.length (some (w.heap.size,0))) (H++ [.cells sz ver cs fz]) S (w.alloc (.cells (us++more).toArray e)) Wr:=by
 have hx:=ext_push β H S (.cells sz ver cs fz) (some (w.heap.size,0))
 have hv:Evo Wr S w (w.alloc (.cells (us++more).toArray e)):=Evo.alloc w _ h.imm
 have hmb:∀ (id:Nat) (es:List (Value × V)) (b:Nat),H[id]? =some (Ob.map es)→β id=some (b,0)→(w.alloc (.cells (us++more).toArray e)).heap[b]? =w.heap[b]? :=fun id es b hH hb=>RowKit.Below.heap_alloc _ _ _ (h.map_lt hH hb)
 refine ⟨fun id sz' ver' cs' fz' hH=> ?_,fun id id' sz1 ver1 cs1 fz1 sz2 ver2 cs2 fz2 b o o' h1 h2 h3 h4=> ?_,fun b o hs=>by have:=h.imm b o hs; simp; omega,(h.stay hx hv (push_maps (by intro es h; cases h)) hmb).1,(h.stay hx hv (push_maps (by intro es h; cases h)) hmb).2⟩
 ·by_cases hid:id<H.length
  ·rw [List.getElem?_append_left hid] at hH
   obtain ⟨hsz',h'⟩:=h.cells id sz' ver' cs' fz' hH
   refine ⟨hsz',?_⟩
   rw [upd_other β _ (by omega)]
   rcases h' with h' | ⟨b,o,arr,e',k1,k2,k3,k4,k5,k6⟩
   ·exact .inl h'
   ·have hb:b<w.heap.size:=(Array.getElem?_eq_some_iff.1 k2).1
    refine .inr ⟨b,o,arr,e',k1,by rw [RowKit.Below.heap_alloc _ _ _ hb]; exact k2,k3,k4,fun j c hc=> ?_,k6⟩
    obtain ⟨u,m1,m2⟩:=k5 j c hc
    exact ⟨u,(cell_of_heap (RowKit.Below.heap_alloc _ _ _ hb) _).trans m1,RelC.step hx hv c u m2⟩
  ·have hid':id=H.length:=by
    have:=(List.getElem?_eq_some_iff.1 hH).1
    simp at this; omega
   subst hid'
   simp only [List.getElem?_concat_length,Option.some.injEq,Ob.cells.injEq] at hH
   obtain ⟨rfl,rfl,rfl,rfl⟩:=hH
   refine ⟨⟨hsz,hpl⟩,.inr ⟨w.heap.size,0,(us++more).toArray,e,upd_same _ _ _,heap_alloc_new w _,hw,?_,fun j c hc=> ?_,fun k hs=> ?_⟩⟩
   ·simp [hr.length]
   ·obtain ⟨u,m1,m2⟩:=hr.get j c hc
    refine ⟨u,?_,RelC.step hx hv c u m2⟩
    have hj:j<us.length:=(List.getElem?_eq_some_iff.1 m1).1
    simp only [World.cell?,heap_alloc_new,Nat.zero_add,Option.isSome_none,Bool.false_eq_true,if_false]
    simp [List.getElem?_append_left hj,m1]
   ·exact absurd (h.imm _ _ hs) (by omega)
 ·have hlt:∀ i sz ver cs fz b o,H[i]? =some (.cells sz ver cs fz)→β i=some (b,o)→b<w.heap.size:=fun i sz ver cs fz b o hi hb=>by
   obtain ⟨_,h'⟩:=h.cells i sz ver cs fz hi
   rcases h' with h' | ⟨b',o',arr,e',k1,k2,_⟩
   ·rw [h'.1] at hb; cases hb
   ·rw [k1] at hb; injection hb with hb; injection hb with hb _; subst hb
    exact (Array.getElem?_eq_some_iff.1 k2).1
  by_cases hi1:id<H.length
  ·rw [List.getElem?_append_left hi1] at h1
   rw [upd_other β _ (by omega)] at h3
   by_cases hi2:id'<H.length
   ·rw [List.getElem?_append_left hi2] at h2
    rw [upd_other β _ (by omega)] at h4
    exact h.inj id id' _ _ _ _ _ _ _ _ b o o' h1 h2 h3 h4
   ·have e2:id'=H.length:=by have:=(List.getElem?_eq_some_iff.1 h2).1; simp at this; omega
    subst e2
    rw [upd_same] at h4
    injection h4 with h4; injection h4 with h4 _
    have:=hlt id _ _ _ _ _ _ h1 h3
    omega
  ·have e1:id=H.length:=by have:=(List.getElem?_eq_some_iff.1 h1).1; simp at this; omega
   subst e1
   rw [upd_same] at h3
   injection h3 with h3; injection h3 with h3 _
   by_cases hi2:id'<H.length
   ·rw [List.getElem?_append_left hi2] at h2
    rw [upd_other β _ (by omega)] at h4
    have:=hlt id' _ _ _ _ _ _ h2 h4
    omega
   ·have:=(List.getElem?_eq_some_iff.1 h2).1; simp at this; omega
theorem HRel.allocNil (h:HRel β H S w Wr) (sz ver:Nat) (fz:Bool) (hsz:0<sz):HRel (upd β H.length none) (H++ [.cells sz ver [] fz]) S w Wr:=by
 have hx:=ext_push β H S (.cells sz ver [] fz) none
 have hv:Evo Wr S w w:=Evo.refl _ _ _
 refine ⟨fun id sz' ver' cs' fz' hH=> ?_,fun id id' sz1 ver1 cs1 fz1 sz2 ver2 cs2 fz2 b o o' h1 h2 h3 h4=> ?_,h.imm,(h.stay hx hv (push_maps (by intro es h; cases h)) fun _ _ _ _ _=>rfl).1,(h.stay hx hv (push_maps (by intro es h; cases h)) fun _ _ _ _ _=>rfl).2⟩
 ·by_cases hid:id<H.length
  ·rw [List.getElem?_append_left hid] at hH
   obtain ⟨hsz',h'⟩:=h.cells id sz' ver' cs' fz' hH
   refine ⟨hsz',?_⟩
   rw [upd_other β _ (by omega)]
   rcases h' with h' | ⟨b,o,arr,e',k1,k2,k3,k4,k5,k6⟩
   ·exact .inl h'
   ·refine .inr ⟨b,o,arr,e',k1,k2,k3,k4,fun j c hc=> ?_,k6⟩
    obtain ⟨u,m1,m2⟩:=k5 j c hc
    exact ⟨u,m1,RelC.step hx hv c u m2⟩
  ·have hid':id=H.length:=by have:=(List.getElem?_eq_some_iff.1 hH).1; simp at this; omega
   subst hid'
   simp only [List.getElem?_concat_length,Option.some.injEq,Ob.cells.injEq] at hH
   obtain ⟨rfl,rfl,rfl,rfl⟩:=hH
   exact ⟨⟨hsz,fun _ c hc=>by simp at hc⟩,.inl ⟨upd_same _ _ _,rfl⟩⟩
 ·have hi1:id<H.length:=by
   have:=(List.getElem?_eq_some_iff.1 h1).1
   simp at this
   rcases Nat.lt_or_ge id H.length with hh | hh
   ·exact hh
   ·have e1:id=H.length:=by omega
    subst e1; rw [upd_same] at h3; cases h3
  have hi2:id'<H.length:=by
   have:=(List.getElem?_eq_some_iff.1 h2).1
   simp at this
   rcases Nat.lt_or_ge id' H.length with hh | hh
   ·exact hh
   ·have e1:id'=H.length:=by omega
    subst e1; rw [upd_same] at h4; cases h4
  rw [List.getElem?_append_left hi1] at h1
  rw [List.getElem?_append_left hi2] at h2
  rw [upd_other β _ (by omega)] at h3 h4
  exact h.inj id id' _ _ _ _ _ _ _ _ b o o' h1 h2 h3 h4
theorem Evo.setCells (w:World) {b o:Nat} {us:List Value} (hb:Wr b) (hs:∀ k,S b k→k<o∨o+us.length≤k):Evo Wr S w (w.setCells b o us) where
 os:=(rest_setCells b us o w).1
 tape:=(rest_setCells b us o w).2.1
 output:=(rest_setCells b us o w).2.2
 size:=by rw [size_setCells]; exact Nat.le_refl _
 block:=fun k _ hk=>heap_setCells_other b k (fun e=>hk (e ▸ hb)) us o w
 imm:=fun k j hsk=>World.cell?_setCells_out b us o w _ (fun e _=>by subst e; exact hs j hsk)
 shape:=fun k arr e fr h=>by
  by_cases hk:k=b
  ·subst hk
   obtain ⟨arr',a1,a2⟩:=heap_setCells_same k us o w arr e fr h
   exact ⟨arr',fr,a1,a2⟩
  ·exact ⟨arr,fr,by rw [heap_setCells_other b k hk]; exact h,rfl⟩
theorem set_maps {H:List Ob} {j:Nat} {x:Ob} (hx:∀ es,x≠Ob.map es):∀ (id:Nat) (es:List (Value × V)),(H.set j x)[id]? =some (Ob.map es)→H[id]? =some (Ob.map es):=fun id es hH=>by
 rw [List.getElem?_set] at hH
 split at hH
 ·split at hH
  ·simp only [Option.some.injEq] at hH
   exact absurd hH (hx es)
  ·cases hH
 ·exact hH
theorem ext_set (β:Nat→Option (Nat × Nat)) (H:List Ob) (S:Nat→Nat→Prop) {id sz ver:Nat} {cs cs':List C} {fz fz':Bool} (hid:H[id]? =some (.cells sz ver cs fz)) (hl:cs.length=cs'.length):
  Ext β H S β (H.set id (.cells sz ver cs' fz')) S where
 len:=by simp
 ids:=fun i sz1 ver1 cs1 fz1 hi hH=>by
  rw [List.getElem?_set] at hH
  split at hH
  ·rename_i e
   subst e
   rw [if_pos hi] at hH
   simp only [Option.some.injEq,Ob.cells.injEq] at hH
   obtain ⟨rfl,rfl,rfl,rfl⟩:=hH
   exact ⟨ver,cs,fz,hid,Nat.le_refl _,fun _=>⟨hl,rfl⟩⟩
  ·exact ⟨ver1,cs1,fz1,hH,Nat.le_refl _,fun _=>⟨rfl,rfl⟩⟩
 mps:=fun i es hi hH=>⟨es,set_maps (by intro es h; cases h) i es hH,rfl⟩
 sub:=fun _ _ h=>h
theorem HRel.store (h:HRel β H S w Wr) {id sz ver b o off:Nat} {cs new:List C} {us:List Value} (hid:H[id]? =some (.cells sz ver cs false)) (hβ:β id=some (b,o)) (hlen:off+new.length≤cs.length)
  (hr:RelL β H S w new us) (hpl:ver≠0→∀ c∈new,plain c=true):
  HRel β (H.set id (.cells sz ver (splice cs off new) false)) S (w.setCells b (o+off) us) Wr∧Ext β H S β (H.set id (.cells sz ver (splice cs off new) false)) S∧Evo Wr S w (w.setCells b (o+off) us):=by
 have hx:Ext β H S β (H.set id (.cells sz ver (splice cs off new) false)) S:=ext_set β H S hid (by rw [length_splice _ _ _ hlen])
 obtain ⟨hsz,h'⟩:=h.cells id sz ver cs false hid
 rcases h' with h' | ⟨b',o',arr,e,k1,k2,k3,k4,k5,k6⟩
 ·rw [h'.1] at hβ; cases hβ
 rw [hβ] at k1
 simp only [Option.some.injEq,Prod.mk.injEq] at k1
 obtain ⟨rfl,rfl⟩:=k1
 have hus:us.length=new.length:=hr.length
 have hv:Evo Wr S w (w.setCells b (o+off) us):=Evo.setCells w k3 (fun k hs=>by have:=k6 k hs; simp at this; omega)
 have hcell:∀ j,j<arr.size→(w.cell? ⟨b,j,none⟩).isSome=true:=fun j hj=>by simp [World.cell?,k2,hj]
 have hmb:∀ (id:Nat) (es:List (Value × V)) (bm:Nat),H[id]? =some (Ob.map es)→β id=some (bm,0)→(w.setCells b (o+off) us).heap[bm]? =w.heap[bm]? :=fun i es bm hi hb=>heap_setCells_other b bm (fun ee=>by
  obtain ⟨b',arr',clock,n1,n2,_⟩:=h.maps i es hi
  rw [n1] at hb; injection hb with hb; injection hb with hb _
  rw [← ee,← hb,n2] at k2; cases k2) us _ w
 refine ⟨⟨fun id' sz' ver' cs' fz' hH=> ?_,fun id1 id2 sz1 ver1 cs1 fz1 sz2 ver2 cs2 fz2 b1 o1 o2 h1 h2 h3 h4=> ?_,fun b1 o1 hs=>by rw [size_setCells]; exact h.imm b1 o1 hs,(h.stay hx hv (set_maps (by intro es h; cases h)) hmb).1,(h.stay hx hv (set_maps (by intro es h; cases h)) hmb).2⟩,hx,hv⟩
 ·rw [List.getElem?_set] at hH
  split at hH
  ·rename_i ee
   subst ee
   split at hH
   ·simp only [Option.some.injEq,Ob.cells.injEq] at hH
    obtain ⟨rfl,rfl,rfl,rfl⟩:=hH
    obtain ⟨arr',a1,a2⟩:=heap_setCells_same b us (o+off) w arr e (0,0) k2
    refine ⟨⟨hsz.1,fun hv c hc=>splice_mem (p:=fun c=>plain c=true) hc (hsz.2 hv c) (hpl hv c)⟩,.inr ⟨b,o,arr',e,hβ,a1,k3,by rw [length_splice _ _ _ hlen]; omega,fun j c hc=> ?_,k6⟩⟩
    rw [get_splice cs off new hlen] at hc
    split at hc
    ·rename_i hj
     obtain ⟨u,m1,m2⟩:=k5 j c hc
     exact ⟨u,(World.cell?_setCells_out b us (o+off) w _ (fun _ _=>.inl (by simp; omega))).trans m1,RelC.step hx hv c u m2⟩
    ·split at hc
     ·rename_i hj1 hj2
      obtain ⟨u,m1,m2⟩:=hr.get (j - off) c hc
      have hjl:j - off<us.length:=(List.getElem?_eq_some_iff.1 m1).1
      refine ⟨u,?_,RelC.step hx hv c u m2⟩
      have:=World.cell?_setCells_in b us (o+off) w (fun i hi=>hcell _ (by omega)) (j - off) hjl
      rw [show o+off+(j - off)=o+j by omega] at this
      rw [this]
      rw [List.getElem?_eq_getElem hjl] at m1
      exact m1
     ·rename_i hj1 hj2
      obtain ⟨u,m1,m2⟩:=k5 j c hc
      exact ⟨u,(World.cell?_setCells_out b us (o+off) w _ (fun _ _=>.inr (by simp; omega))).trans m1,RelC.step hx hv c u m2⟩
   ·cases hH
  ·rename_i hne
   obtain ⟨hsz',h''⟩:=h.cells id' sz' ver' cs' fz' hH
   refine ⟨hsz',?_⟩
   rcases h'' with h'' | ⟨b1,o1,arr1,e1,n1,n2,n3,n4,n5,n6⟩
   ·exact .inl h''
   ·have hb:b1≠b:=fun ee=>hne (h.inj id id' _ _ _ _ _ _ _ _ b o o1 hid hH hβ (ee ▸ n1))
    refine .inr ⟨b1,o1,arr1,e1,n1,by rw [heap_setCells_other b b1 hb]; exact n2,n3,n4,fun j c hc=> ?_,n6⟩
    obtain ⟨u,m1,m2⟩:=n5 j c hc
    exact ⟨u,(cell_of_heap (heap_setCells_other b b1 hb us (o+off) w) _).trans m1,RelC.step hx hv c u m2⟩
 ·have key:∀ (i szi veri:Nat) (csi:List C) (fzi:Bool),(H.set id (.cells sz ver (splice cs off new) false))[i]? =some (Ob.cells szi veri csi fzi)→∃ (sz' ver':Nat) (cs':List C) (fz':Bool),H[i]? =some (Ob.cells sz' ver' cs' fz'):=fun i szi veri csi fzi hi=>by
   rw [List.getElem?_set] at hi
   split at hi
   ·rename_i ee; subst ee; exact ⟨_,_,_,_,hid⟩
   ·exact ⟨_,_,_,_,hi⟩
  obtain ⟨_,_,_,_,g1⟩:=key id1 _ _ _ _ h1
  obtain ⟨_,_,_,_,g2⟩:=key id2 _ _ _ _ h2
  exact h.inj id1 id2 _ _ _ _ _ _ _ _ b1 o1 o2 g1 g2 h3 h4
end
end Go.Vm

namespace Go.Vm
set_option linter.unusedVariables false
set_option linter.unusedSimpArgs false
def OpRun (P:Program) (Wr:Nat→Prop) (S:Nat→Nat→Prop) (β:Nat→Option (Nat × Nat)) (hp:List Ob) (w:World) (ρv:Operand→Value) (o:Oper) (d:D) (hp':List Ob):Prop:=
 ∃ (nx:Next) (v:Value) (w':World) (β':Nat→Option (Nat × Nat)),(execOp ρv o).run P w=.ok nx w'∧(nx=.value v∨(nx=.skip∧v=undef))∧RelD β' hp' S w' d v∧HRel β' hp' S w' Wr∧
  Ext β hp S β' hp' S∧Evo Wr S w w'
section
variable {P:Program} {Wr:Nat→Prop} {S:Nat→Nat→Prop} {β:Nat→Option (Nat × Nat)} {hp hp':List Ob} {w:World} {ρ:Operand→D} {ρv:Operand→Value} {o:Oper} {d:D} {os os':List Or} {ps:List Prop}
theorem OpRun.value (h:HRel β hp S w Wr) {v:Value} (hrun:(execOp ρv o).run P w=.ok (.value v) w) (hd:RelD β hp S w d v):OpRun P Wr S β hp w ρv o d hp:=
 ⟨.value v,v,w,β,hrun,.inl rfl,hd,h,Ext.refl _ _ _,Evo.refl _ _ _⟩
theorem relOne {c:C} {u:Value} :RelD β hp S w (one c) u↔RelC β hp S w c u:=Iff.rfl
theorem rel_int {k:IntKind} {n:Int} {u:Value} (h:RelD β hp S w (.v (.one (.sc (.int k n)))) u):u=.int k n:=by
 have h':RelC β hp S w (.sc (.int k n)) u:=h
 simp only [RelC,RelP] at h'; exact h'.1
theorem rel_bool {b:Bool} {u:Value} (h:RelD β hp S w (.v (.one (.sc (.bool b)))) u):u=.bool b:=by
 have h':RelC β hp S w (.sc (.bool b)) u:=h
 simp only [RelC,RelP] at h'; exact h'.1
theorem rel_sc {v:Value} {u:Value} (h:RelD β hp S w (.v (.one (.sc v))) u):u=v:=by
 have h':RelC β hp S w (.sc v) u:=h
 simp only [RelC,RelP] at h'; exact h'.1
theorem mk_int (k:IntKind) (n:Int):RelD β hp S w (vInt k n) (.int k n):=by
 show RelC β hp S w _ _; simp only [RelC,RelP]; exact ⟨True.intro,rfl⟩
theorem mk_bool (b:Bool):RelD β hp S w (vBool b) (.bool b):=by
 show RelC β hp S w _ _; simp only [RelC,RelP]; exact ⟨True.intro,rfl⟩
theorem mk_sc {v:Value} (h:v.oneCell'=true):RelD β hp S w (one (.sc v)) v:=by
 show RelC β hp S w _ _; simp only [RelC,RelP]; exact ⟨True.intro,h⟩
theorem op_move (h:HRel β hp S w Wr) (hρ:∀ x,RelD β hp S w (ρ x) (ρv x)) {a:Operand} (ho:o.op=.move a∨o.op=.assign a) (hop:opx P o ρ hp os=some (d,hp',os',ps)):OpRun P Wr S β hp w ρv o d hp':=by
 unfold opx at hop
 rcases ho with ho | ho
 ·rw [ho] at hop
  simp only [Option.some.injEq,Prod.mk.injEq] at hop
  obtain ⟨rfl,rfl,rfl,rfl⟩:=hop
  exact OpRun.value h (v:=ρv a) (by simp [execOp,ho]) (hρ a)
 ·rw [ho] at hop
  simp only [Option.some.injEq,Prod.mk.injEq] at hop
  obtain ⟨rfl,rfl,rfl,rfl⟩:=hop
  exact OpRun.value h (v:=ρv a) (by simp [execOp,ho]) (hρ a)
theorem op_pick (h:HRel β hp S w Wr) (hρ:∀ x,RelD β hp S w (ρ x) (ρv x)) {c a b:Operand} (ho:o.op=.pick c a b) (hop:opx P o ρ hp os=some (d,hp',os',ps)) (hps:∀ p∈ps,p):OpRun P Wr S β hp w ρv o d hp':=by
 unfold opx at hop
 rw [ho] at hop
 simp only at hop
 split at hop
 ·rename_i t os1 v hc
  simp only [Option.some.injEq,Prod.mk.injEq] at hop
  obtain ⟨rfl,rfl,rfl,rfl⟩:=hop
  have hv:v=t:=hps _ (by simp)
  subst hv
  have hcv:=rel_bool (hc ▸ hρ c)
  refine OpRun.value h (v:=if v then ρv a else ρv b) (by simp [execOp,ho,hcv,asBool]) ?_
  cases v<;>simp [hρ]
 ·cases hop
theorem op_box (h:HRel β hp S w Wr) (hf:Wr w.heap.size) (hρ:∀ x,RelD β hp S w (ρ x) (ρv x)) {t:TypeId} {x:Operand} (ho:o.op=.box t x) (hop:opx P o ρ hp os=some (d,hp',os',ps)):OpRun P Wr S β hp w ρv o d hp':=by
 unfold opx at hop
 rw [ho] at hop
 simp only at hop
 split at hop
 ·rename_i v hx
  simp only [Option.some.injEq,Prod.mk.injEq] at hop
  obtain ⟨rfl,rfl,rfl,rfl⟩:=hop
  have hv:RelV β hp S w v (ρv x):=by have:=hρ x; rw [hx] at this; exact this
  have hr:=hv.cells
  have ha:=h.alloc hf hr [] t 1 0 false (by omega) (fun hh=>absurd rfl hh)
  simp only [List.append_nil,Array.toArray_toList] at ha
  refine ⟨.value (.pointer (some ⟨w.heap.size,0,none⟩)),_,_,_,by simp [execOp,ho,Instr.box,newVar,newRow],.inl rfl,?_,ha,ext_push _ _ _ _ _,Evo.alloc w _ h.imm⟩
  show RelC _ _ _ _ _ _
  simp only [RelC,RelP]
  refine ⟨⟨_,rfl⟩,by simp,fun sz ver' cs fz hH=> ?_⟩
  simp only [List.getElem?_concat_length,Option.some.injEq,Ob.cells.injEq] at hH
  obtain ⟨rfl,rfl,rfl,rfl⟩:=hH
  exact ⟨Nat.le_refl _,fun _=>⟨_,_,upd_same _ _ _,rfl⟩⟩
 ·cases hop
theorem op_alloc (h:HRel β hp S w Wr) (hf:Wr w.heap.size) {t:TypeId} (ho:o.op=.alloc t) (hop:opx P o ρ hp os=some (d,hp',os',ps)):OpRun P Wr S β hp w ρv o d hp':=by
 unfold opx at hop
 rw [ho] at hop
 simp only at hop
 split at hop
 ·rename_i i hi
  split at hop
  ·rename_i z hz
   split at hop
   ·rename_i hl
    simp only [Option.some.injEq,Prod.mk.injEq] at hop
    obtain ⟨rfl,rfl,rfl,rfl⟩:=hop
    have hr:=(RelV.lit (β:=β) (H:=hp) (S:=S) (w:=w) hl).cells
    have ha:=h.alloc hf hr [] t 1 0 false (by omega) (fun hh=>absurd rfl hh)
    simp only [List.append_nil,Array.toArray_toList] at ha
    refine ⟨.value (.pointer (some ⟨w.heap.size,0,none⟩)),_,_,_,by simp [execOp,ho,Instr.alloc,zeroValue,typeInfo,hi,hz,newVar,newRow],.inl rfl,?_,ha,ext_push _ _ _ _ _,Evo.alloc w _ h.imm⟩
    show RelC _ _ _ _ _ _
    simp only [RelC,RelP]
    refine ⟨⟨_,rfl⟩,by simp,fun sz ver' cs fz hH=> ?_⟩
    simp only [List.getElem?_concat_length,Option.some.injEq,Ob.cells.injEq] at hH
    obtain ⟨rfl,rfl,rfl,rfl⟩:=hH
    exact ⟨Nat.le_refl _,fun _=>⟨_,_,upd_same _ _ _,rfl⟩⟩
   ·cases hop
  ·cases hop
 ·cases hop
theorem op_load (h:HRel β hp S w Wr) (hρ:∀ x,RelD β hp S w (ρ x) (ρv x)) {t:TypeId} {a:Operand} (ho:o.op=.load t a) (hop:opx P o ρ hp os=some (d,hp',os',ps)) (hps:∀ p∈ps,p):OpRun P Wr S β hp w ρv o d hp':=by
 unfold opx at hop
 rw [ho] at hop
 simp only at hop
 split at hop
 ·rename_i agg n id ver off ht ha
  split at hop
  ·rename_i sz ver' cs fz hid
   split at hop
   ·rename_i hver
    subst hver
    split at hop
    ·rename_i v hw
     split at hop
     ·rename_i hlen
      simp only [Option.some.injEq,Prod.mk.injEq] at hop
      obtain ⟨rfl,rfl,rfl,rfl⟩:=hop
      have hp0:RelC β hp S w (.ptr id ver off) (ρv a):=by have:=hρ a; rw [ha] at this; exact this
      simp only [RelC,RelP] at hp0
      obtain ⟨_,hlt,hs⟩:=hp0
      obtain ⟨_,hs⟩:=hs sz ver cs fz hid
      obtain ⟨b,oo,hb,hu⟩:=hs rfl
      obtain ⟨hsz,h'⟩:=h.cells id sz ver cs fz hid
      rcases h' with h' | ⟨b',o',arr,e,k1,k2,k3,k4,k5,k6⟩
      ·rw [h'.1] at hb; cases hb
      rw [hb] at k1
      simp only [Option.some.injEq,Prod.mk.injEq] at k1
      obtain ⟨rfl,rfl⟩:=k1
      have hl:Lies β hp S w cs b oo:=k5
      obtain ⟨u,h1,h2⟩:=run_loadVar_lies ht ((hl.drop off).take n) hlen hw
      exact OpRun.value h (v:=u) (by simp [execOp,ho,hu,Instr.loadAt,Instr.sureAddr,h1]) h2
     ·cases hop
    ·cases hop
   ·cases hop
  ·cases hop
 ·rename_i agg n cs off ht ha
  split at hop
  ·rename_i new os1
   split at hop
   ·rename_i v hw
    split at hop
    ·rename_i hlen
     simp only [Option.some.injEq,Prod.mk.injEq] at hop
     obtain ⟨rfl,rfl,rfl,rfl⟩:=hop
     have hnew:(cs.drop off).take n=new:=hps _ (by simp)
     have hp0:RelC β hp S w (.loc cs off) (ρv a):=by have:=hρ a; rw [ha] at this; exact this
     simp only [RelC,RelP] at hp0
     obtain ⟨b,oo,hu,hat⟩:=hp0
     obtain ⟨hl,_⟩:=hat.lies (β:=β) (H:=hp)
     have hl':=(hl.drop off).take n
     rw [hnew] at hl'
     obtain ⟨u,h1,h2⟩:=run_loadVar_lies ht hl' hlen hw
     exact OpRun.value h (v:=u) (by simp [execOp,ho,hu,Instr.loadAt,Instr.sureAddr,h1]) h2
    ·cases hop
   ·cases hop
  ·cases hop
 ·cases hop
theorem op_store (h:HRel β hp S w Wr) (hρ:∀ x,RelD β hp S w (ρ x) (ρv x)) {t:TypeId} {a x:Operand} (ho:o.op=.store t a x) (hop:opx P o ρ hp os=some (d,hp',os',ps)):OpRun P Wr S β hp w ρv o d hp':=by
 unfold opx at hop
 rw [ho] at hop
 simp only at hop
 split at hop
 ·rename_i id ver off v i ha hx hi
  split at hop
  ·rename_i sz ver' cs hid
   split at hop
   ·rename_i hc
    obtain ⟨rfl,hsize,hlen,hpl⟩:=hc
    simp only [Option.some.injEq,Prod.mk.injEq] at hop
    obtain ⟨rfl,rfl,rfl,rfl⟩:=hop
    have hp0:RelC β hp S w (.ptr id ver off) (ρv a):=by have:=hρ a; rw [ha] at this; exact this
    simp only [RelC,RelP] at hp0
    obtain ⟨_,hlt,hs⟩:=hp0
    obtain ⟨_,hs⟩:=hs sz ver cs false hid
    obtain ⟨b,oo,hb,hu⟩:=hs rfl
    have hv:RelV β hp S w v (ρv x):=by have:=hρ x; rw [hx] at this; exact this
    have hr:=hv.cells
    have hplv:ver≠0→∀ c∈v.cells,plain c=true:=fun hv0=>by
     rcases hpl with hpl | hpl
     ·exact absurd hpl hv0
     ·exact plains_mem.1 hpl
    obtain ⟨g1,g2,g3⟩:=h.store hid hb hlen hr hplv
    refine ⟨.skip,undef,_,β,?_,.inr ⟨rfl,rfl⟩,trivial,g1,g2,g3⟩
    obtain ⟨hsz,h'⟩:=h.cells id sz ver cs false hid
    rcases h' with h' | ⟨b',o',arr,e,k1,k2,k3,k4,k5,k6⟩
    ·rw [h'.1] at hb; cases hb
    rw [hb] at k1
    simp only [Option.some.injEq,Prod.mk.injEq] at k1
    obtain ⟨rfl,rfl⟩:=k1
    have hul:(ρv x).cells.toList.length=v.cells.length:=hr.length
    have hst:=run_storeCells_cells (P:=P) b (oo+off) (ρv x).cells.toList 0 w (fun j hj=>by simp [World.cell?,k2]; omega) (fun j hj=>by simp [World.frozen?,k2])
     hr.all
    simp only [Nat.add_zero] at hst
    have hsz2:(ρv x).cells.size=i.size:=by rw [← hsize,← hul]; simp
    simp [execOp,ho,hu,Instr.storeAt,Instr.sureAddr,storeVar,sizeOf,typeInfo,hi,hsz2,hst]
   ·cases hop
  ·cases hop
 ·cases hop
theorem op_nilCheck (h:HRel β hp S w Wr) (hρ:∀ x,RelD β hp S w (ρ x) (ρv x)) {x:Operand} (ho:o.op=.nilCheck x) (hop:opx P o ρ hp os=some (d,hp',os',ps)) (hps:∀ p∈ps,p):OpRun P Wr S β hp w ρv o d hp':=by
 unfold opx at hop
 rw [ho] at hop
 simp only at hop
 split at hop
 ·rename_i id ver off hx
  split at hop
  ·rename_i hid
   simp only [Option.some.injEq,Prod.mk.injEq] at hop
   obtain ⟨rfl,rfl,rfl,rfl⟩:=hop
   have hfit:(hp[id]?).all (·.fit ver)=true:=hps _ (by simp)
   have hp0:RelC β hp S w (.ptr id ver off) (ρv x):=by have:=hρ x; rw [hx] at this; exact this
   have hp1:=hp0
   simp only [RelC,RelP] at hp1
   obtain ⟨_,hlt,hs⟩:=hp1
   rw [List.getElem?_eq_getElem hid] at hfit
   simp only [Option.all_some] at hfit
   cases hob:hp[id] with
   | gone=>rw [hob] at hfit; simp [Ob.fit] at hfit
   | map es=>rw [hob] at hfit; simp [Ob.fit] at hfit
   | cells sz ver' cs fz=>
    rw [hob] at hfit
    simp only [Ob.fit,beq_iff_eq] at hfit
    obtain ⟨_,hs⟩:=hs sz ver' cs fz (by rw [List.getElem?_eq_getElem hid,hob])
    obtain ⟨b,oo,hb,hu⟩:=hs hfit.symm
    refine OpRun.value h (v:=ρv x) ?_ (hρ x)
    simp [execOp,ho,hu]
  ·cases hop
 ·rename_i cs off hx
  simp only [Option.some.injEq,Prod.mk.injEq] at hop
  obtain ⟨rfl,rfl,rfl,rfl⟩:=hop
  have hp0:RelC β hp S w (.loc cs off) (ρv x):=by have:=hρ x; rw [hx] at this; exact this
  simp only [RelC,RelP] at hp0
  obtain ⟨b,oo,hu,_⟩:=hp0
  refine OpRun.value h (v:=ρv x) ?_ (hρ x)
  simp [execOp,ho,hu]
 ·cases hop
theorem op_extract (h:HRel β hp S w Wr) (hρ:∀ x,RelD β hp S w (ρ x) (ρv x)) {a:Operand} {i:Nat} (ho:o.op=.extract a i) (hop:opx P o ρ hp os=some (d,hp',os',ps)):OpRun P Wr S β hp w ρv o d hp':=by
 unfold opx at hop
 rw [ho] at hop
 simp only at hop
 split at hop
 ·rename_i xs ha
  split at hop
  ·rename_i x hx
   simp only [Option.some.injEq,Prod.mk.injEq] at hop
   obtain ⟨rfl,rfl,rfl,rfl⟩:=hop
   have h1:=hρ a
   rw [ha] at h1
   obtain ⟨us,hu,hr⟩:=h1
   have:∀ {xs:List V} {us:List Value},RelVs β hp S w xs us→∀ (i:Nat) (x:V),xs[i]? =some x→∃ u,us[i]? =some u∧RelV β hp S w x u:=by
    intro xs
    induction xs with
    | nil=>intro us _ i x hx; simp at hx
    | cons y ys ih=>
     intro us hr i x hx
     obtain ⟨u,us',rfl,h2,h3⟩:=hr
     cases i with
     | zero=>simp at hx; subst hx; exact ⟨u,rfl,h2⟩
     | succ i=>simpa using ih h3 i x (by simpa using hx)
   obtain ⟨u,hu2,hr2⟩:=this hr i x hx
   refine OpRun.value h (v:=u) ?_ hr2
   have:us[i]? =some u:=by simpa using hu2
   simp [execOp,ho,hu,Instr.extract,this]
  ·cases hop
 ·cases hop
end
end Go.Vm

namespace Go.Vm
set_option linter.unusedVariables false
set_option linter.unusedSimpArgs false
def valOf (agg:Bool) (us:List Value):Value:=if agg then .agg us.toArray else us.headD undef
section
variable {P:Program} {Wr:Nat→Prop} {S:Nat→Nat→Prop} {β:Nat→Option (Nat × Nat)} {hp hp':List Ob} {w:World} {ρ:Operand→D} {ρv:Operand→Value} {o:Oper} {d:D} {os os':List Or} {ps:List Prop}
theorem tinfo_agg {t:TypeId} {n:Nat} (h:tinfo P t=some (true,n)):(∃ dd,P.underlying t=some dd∧dd.isRow=true)∧∃ i,P.info? t=some i∧i.size=n:=by
 unfold tinfo at h
 split at h
 ·rename_i dd i hd hi
  simp only [Option.some.injEq,Prod.mk.injEq,true_and] at h
  exact ⟨⟨_,hd,rfl⟩,_,hi,h⟩
 ·rename_i dd i hd hi
  simp only [Option.some.injEq,Prod.mk.injEq,true_and] at h
  exact ⟨⟨_,hd,rfl⟩,_,hi,h⟩
 ·simp at h
 ·cases h
theorem tinfo_one {t:TypeId} {n:Nat} (h:tinfo P t=some (false,n)):(∃ dd,P.underlying t=some dd∧dd.isRow=false)∧∃ i,P.info? t=some i∧i.size=n:=by
 unfold tinfo at h
 split at h
 ·simp at h
 ·simp at h
 ·rename_i dd i h1 h2 hd hi
  simp only [Option.some.injEq,Prod.mk.injEq,true_and] at h
  refine ⟨⟨_,hd,?_⟩,_,hi,h⟩
  cases dd with
  | struct fs=>exact absurd rfl (h1 fs)
  | array m e=>exact absurd rfl (h2 m e)
  | _=>rfl
 ·cases h
theorem run_isAgg {t:TypeId} {agg:Bool} {n:Nat} (h:tinfo P t=some (agg,n)) (w:World):(isAgg t).run P w=.ok agg w:=by
 cases agg with
 | true=>
  obtain ⟨⟨dd,hd,hr⟩,_⟩:=tinfo_agg h
  unfold isAgg
  rw [Sem.run_bind,run_underlying hd w]
  cases dd<;>simp_all
 | false=>
  obtain ⟨⟨dd,hd,hr⟩,_⟩:=tinfo_one h
  unfold isAgg
  rw [Sem.run_bind,run_underlying hd w]
  cases dd<;>simp_all
theorem tinfo_info {t:TypeId} {agg:Bool} {n:Nat} (h:tinfo P t=some (agg,n)):∃ i,P.info? t=some i∧i.size=n:=by
 cases agg with
 | true=>exact (tinfo_agg h).2
 | false=>exact (tinfo_one h).2
theorem run_part {t:TypeId} {agg:Bool} {n:Nat} {us:List Value} {off:Nat} (ht:tinfo P t=some (agg,n)) (hl:agg=false→((us.drop off).take n).length=1) (w:World):
  (part t us.toArray off).run P w=.ok (valOf agg ((us.drop off).take n)) w:=by
 have hagg:=run_isAgg ht w
 obtain ⟨i,hi,hn⟩:=tinfo_info ht
 cases agg with
 | true=>
  simp only [part,Sem.run_bind,hagg,Result.andThen_ok,if_true,sizeOf,typeInfo,run_program,hi,Sem.run_pure,hn,valOf]
  congr 2
  apply Array.ext'
  simp only [Array.toList_extract,List.extract_eq_take_drop,Nat.add_sub_cancel_left]
 | false=>
  obtain ⟨u,hu⟩:∃ u,(us.drop off).take n= [u]:=List.length_eq_one_iff.1 (hl rfl)
  have hget:us[off]? =some u:=by
   have h0:((us.drop off).take n)[0]? =some u:=by rw [hu]; rfl
   rw [List.getElem?_take] at h0
   split at h0
   ·rw [List.getElem?_drop] at h0; simpa using h0
   ·cases h0
  simp [part,hagg,hget,hu,valOf]
theorem eqGo_sound (d:Nat) (eq:TypeId→List C→List C→Option Bool)
  (ih:∀ t agg n xs ys us vs r,tinfo P t=some (agg,n)→eq t xs ys=some r→RelL β hp S w xs us→RelL β hp S w ys vs→(agg=false→xs.length=1∧ys.length=1)∧(Op.equalIn d t (valOf agg us) (valOf agg vs)).run P w=.ok r w):
  ∀ (fs:List Field) (xs ys:List C) (us vs:List Value) (r:Bool),eqGo P eq fs xs ys=some r→RelL β hp S w xs us→RelL β hp S w ys vs→(Op.eqFields d us.toArray vs.toArray fs).run P w=.ok r w
 | [],xs,ys,us,vs,r,h,_,_=>by simp only [eqGo,Option.some.injEq] at h; subst h; rfl
 | f::fs,xs,ys,us,vs,r,h,hx,hy=>by
  simp only [eqGo] at h
  split at h
  ·rename_i hname
   split at h
   ·rename_i agg n ht
    split at h
    ·rename_i a b h1 h2
     simp only [Option.some.injEq] at h
     subst h
     have hx':=(hx.drop f.offset).take n
     have hy':=(hy.drop f.offset).take n
     obtain ⟨e1,e2⟩:=ih f.type agg n _ _ _ _ a ht h1 hx' hy'
     have hrest:=eqGo_sound d eq ih fs xs ys us vs b h2 hx hy
     have p1:=run_part (us:=us) (off:=f.offset) ht (fun ha=>by rw [hx'.length]; exact (e1 ha).1) w
     have p2:=run_part (us:=vs) (off:=f.offset) ht (fun ha=>by rw [hy'.length]; exact (e1 ha).2) w
     simp only [Op.eqFields]
     rw [if_pos hname]
     simp only [Sem.run_bind,p1,p2,Result.andThen_ok,e2]
     cases a
     ·simp
     ·simp [hrest]
    ·cases h
   ·cases h
  ·cases h
theorem eqIn_sound:∀ (dp k:Nat) (t:TypeId) (agg:Bool) (n:Nat) (xs ys:List C) (us vs:List Value) (r:Bool),tinfo P t=some (agg,n)→eqIn P dp t xs ys=some r→RelL β hp S w xs us→RelL β hp S w ys vs→
  (agg=false→xs.length=1∧ys.length=1)∧(Op.equalIn (dp+k) t (valOf agg us) (valOf agg vs)).run P w=.ok r w
 | 0,_,_,_,_,_,_,_,_,_,_,h,_,_=>by simp [eqIn] at h
 | dp+1,k,t,agg,n,xs,ys,us,vs,r,ht,h,hx,hy=>by
  rw [show dp+1+k=(dp+k)+1 by omega]
  simp only [eqIn] at h
  split at h
  ·rename_i a b hd
   simp only [Option.some.injEq] at h; subst h
   have hagg:agg=false:=by
    cases agg with
    | false=>rfl
    | true=>obtain ⟨⟨dd,h1,h2⟩,_⟩:=tinfo_agg ht; rw [hd] at h1; injection h1 with h1; subst h1; simp at h2
   subst hagg
   simp only [RelL,RelC,RelP] at hx hy
   obtain ⟨_,_,rfl,⟨rfl,_⟩,rfl⟩:=hx
   obtain ⟨_,_,rfl,⟨rfl,_⟩,rfl⟩:=hy
   exact ⟨fun _=>⟨rfl,rfl⟩,run_equalIn_bool' w _ t a b hd⟩
  ·rename_i kk k1 a k2 b hd
   split at h
   ·rename_i hk
    subst hk
    simp only [Option.some.injEq] at h; subst h
    have hagg:agg=false:=by
     cases agg with
     | false=>rfl
     | true=>obtain ⟨⟨dd,h1,h2⟩,_⟩:=tinfo_agg ht; rw [hd] at h1; injection h1 with h1; subst h1; simp at h2
    subst hagg
    simp only [RelL,RelC,RelP] at hx hy
    obtain ⟨_,_,rfl,⟨rfl,_⟩,rfl⟩:=hx
    obtain ⟨_,_,rfl,⟨rfl,_⟩,rfl⟩:=hy
    exact ⟨fun _=>⟨rfl,rfl⟩,run_equalIn_int w _ t _ _ a b hd⟩
   ·cases h
  ·rename_i a b hd
   simp only [Option.some.injEq] at h; subst h
   have hagg:agg=false:=by
    cases agg with
    | false=>rfl
    | true=>obtain ⟨⟨dd,h1,h2⟩,_⟩:=tinfo_agg ht; rw [hd] at h1; injection h1 with h1; subst h1; simp at h2
   subst hagg
   simp only [RelL,RelC,RelP] at hx hy
   obtain ⟨_,_,rfl,⟨rfl,_⟩,rfl⟩:=hx
   obtain ⟨_,_,rfl,⟨rfl,_⟩,rfl⟩:=hy
   refine ⟨fun _=>⟨rfl,rfl⟩,?_⟩
   rw [beq_toListBytes]
   exact run_equalIn_string w _ t a b hd
  ·rename_i fs hd
   split at h
   ·cases h
   ·rename_i hst
    have hagg:agg=true:=by
     cases agg with
     | true=>rfl
     | false=>obtain ⟨⟨dd,h1,h2⟩,_⟩:=tinfo_one ht; rw [hd] at h1; injection h1 with h1; subst h1; simp at h2
    subst hagg
    refine ⟨(fun hh=>by cases hh),?_⟩
    have hf:P.fieldsOf t=fs:=by simp [Program.fieldsOf,hd]
    simp only [valOf,if_true]
    rw [run_equalIn_struct w _ t _ _ (by rw [hf]; exact hd) (by simpa using hst),hf]
    exact eqGo_sound (dp+k) (eqIn P dp) (fun t' agg' n' xs' ys' us' vs' r' a1 a2 a3 a4=>eqIn_sound dp k t' agg' n' xs' ys' us' vs' r' a1 a2 a3 a4) fs.toList _ _ us vs r h hx hy
  ·cases h
theorem eqGuard_one (op:BinOp) (t:TypeId) (x y:Operand) (a b:Value) (ha:a≠ .nilIface) (hb:∀ cs,a≠ .agg cs):(eqGuard op t x y a b).run P w=.ok () w:=by
 cases a<;>first | (exact absurd rfl ha) | (exact absurd rfl (hb _)) | (cases op<;>simp [eqGuard])
theorem binInt_sound {op:BinOp} {k:IntKind} {a b:Int} (t:TypeId) (hs:op≠ .shl∧op≠ .shr) (h:binInt op k a b=some (d,ps)) (hps:∀ p∈ps,p):∃ v,(binOp op t (.int k a) (.int k b)).run P w=.ok v w∧RelD β hp S w d v:=by
 cases op<;>simp only [binInt,Option.some.injEq,Prod.mk.injEq,reduceCtorEq] at h<;>first
  | (obtain ⟨rfl,rfl⟩:=h; refine ⟨.int k _,?_,mk_int _ _⟩; simp [binOp,Op.intArith,Op.intBits]; done)
  | (obtain ⟨rfl,rfl⟩:=h; refine ⟨.bool _,?_,mk_bool _⟩; simp [binOp,Op.intCmp]; done)
  | (obtain ⟨rfl,rfl⟩:=h; have hb:b≠0:=hps _ (by simp); refine ⟨.int k _,?_,mk_int _ _⟩; simp [binOp,Op.intDiv,hb]; done)
theorem shiftInt_sound {op:BinOp} {k kb:IntKind} {a b:Int} (t:TypeId) (h:shiftInt op k a b=some (d,ps)) (hps:∀ p∈ps,p):∃ v,(binOp op t (.int k a) (.int kb b)).run P w=.ok v w∧RelD β hp S w d v:=by
 cases op<;>simp only [shiftInt,Option.some.injEq,Prod.mk.injEq,reduceCtorEq] at h<;>
  (obtain ⟨rfl,rfl⟩:=h; have hb:0≤b:=hps _ (by simp); refine ⟨.int k _,?_,mk_int _ _⟩; have hb':¬ b<0:=by omega
   simp [binOp,Op.shift,hb'])
theorem eq_ptr_nil {t e:TypeId} (hd:P.underlying t=some (.pointer e)) (a:Addr) (n:Nat):(Op.equalIn (n+1) t (.pointer (some a)) (.pointer none)).run P w=.ok false w:=by
 simp only [Op.equalIn,Sem.run_bind,run_underlying hd,Result.andThen_ok,Sem.run_pure]
theorem eq_nil_ptr {t e:TypeId} (hd:P.underlying t=some (.pointer e)) (a:Addr) (n:Nat):(Op.equalIn (n+1) t (.pointer none) (.pointer (some a))).run P w=.ok false w:=by
 simp only [Op.equalIn,Sem.run_bind,run_underlying hd,Result.andThen_ok,Sem.run_pure,Option.isNone_some]
theorem eq_nil_nil {t e:TypeId} (hd:P.underlying t=some (.pointer e)) (n:Nat):(Op.equalIn (n+1) t (.pointer none) (.pointer none)).run P w=.ok true w:=by
 simp only [Op.equalIn,Sem.run_bind,run_underlying hd,Result.andThen_ok,Sem.run_pure,Option.isNone_none]
theorem eq_slice_nil {t e:TypeId} (hd:P.underlying t=some (.slice e)) (a:Option Addr) (k cap n:Nat):(Op.equalIn (n+1) t (.slice a k cap) (.slice none 0 0)).run P w=.ok a.isNone w:=by
 cases a<;>simp [Op.equalIn,run_underlying hd]
theorem ptr_fit {id ver off:Nat} {u:Value} (h:RelC β hp S w (.ptr id ver off) u) (hf:(hp[id]?).any (·.fit ver)=true):
  ∃ b oo sz cs fz,hp[id]? =some (.cells sz ver cs fz)∧β id=some (b,oo)∧u=.pointer (some ⟨b,oo+off,none⟩):=by
 simp only [RelC,RelP] at h
 obtain ⟨_,hlt,hs⟩:=h
 rw [List.getElem?_eq_getElem hlt] at hf
 simp only [Option.any_some] at hf
 cases hob:hp[id] with
 | gone=>rw [hob] at hf; simp [Ob.fit] at hf
 | map es=>rw [hob] at hf; simp [Ob.fit] at hf
 | cells sz ver' cs fz=>
  rw [hob] at hf
  simp only [Ob.fit,beq_iff_eq] at hf
  subst hf
  have hid:hp[id]? =some (.cells sz ver' cs fz):=by rw [List.getElem?_eq_getElem hlt,hob]
  obtain ⟨_,hs⟩:=hs sz ver' cs fz hid
  obtain ⟨b,oo,hb,hu⟩:=hs rfl
  exact ⟨b,oo,sz,cs,fz,hid,hb,hu⟩
theorem eqD_sound {t:TypeId} {a b:D} {ua ub:Value} {r:Bool} (h:eqD P hp t a b=some r) (ha:RelD β hp S w a ua) (hb:RelD β hp S w b ub):
  (∀ op x y,(eqGuard op t x y ua ub).run P w=.ok () w)∧(Op.equal t ua ub).run P w=.ok r w∧(∀ op,op=.eql∨op=.neq→(binOp op t ua ub).run P w=((Op.equal t ua ub).run P w).andThen fun r w=>.ok (.bool (if op=.eql then r else !r)) w):=by
 unfold eqD at h
 split at h
 ·rename_i a b hd
  simp only [Option.some.injEq] at h; subst h
  obtain rfl:=rel_bool ha
  obtain rfl:=rel_bool hb
  refine ⟨fun op x y=>eqGuard_one op t x y _ _ (by simp) (by simp),?_,?_⟩
  ·simp only [Op.equal,Op.maxDepth]; exact run_equalIn_bool' w 9999 t a b hd
  ·rintro op (rfl | rfl)<;>simp [binOp]
 ·rename_i fs xs ys hd
  split at h
  ·cases h
  ·rename_i hg
   obtain ⟨us,rfl,hx⟩:=(ha:RelV β hp S w (.agg xs) ua)
   obtain ⟨vs,rfl,hy⟩:=(hb:RelV β hp S w (.agg ys) ub)
   refine ⟨fun op x y=>run_eqGuard_agg w op t x y us vs (by simpa using hg),?_,?_⟩
   ·obtain ⟨i,hi⟩:∃ i,P.info? t=some i:=by
     simp only [Program.underlying] at hd
     cases hi:P.info? t with
     | none=>simp [hi] at hd
     | some i=>exact ⟨i,rfl⟩
    have ht:tinfo P t=some (true,i.size):=by unfold tinfo; rw [hd,hi]
    have:=(eqIn_sound eqDepth 9980 t true i.size xs ys us.toList vs.toList r ht h hx hy).2
    simpa [valOf,Op.equal,Op.maxDepth,eqDepth] using this
   ·rintro op (rfl | rfl)<;>simp [binOp]
 ·rename_i e id ver off hd
  split at h
  ·rename_i hf
   simp only [Option.some.injEq] at h; subst h
   have hb':=rel_sc hb
   subst hb'
   obtain ⟨b,oo,sz,cs,fz,_,_,rfl⟩:=ptr_fit (β:=β) (S:=S) (w:=w) (off:=off) (u:=ua) ha hf
   refine ⟨fun op x y=>eqGuard_one op t x y _ _ (by simp) (by simp),?_,?_⟩
   ·simp only [Op.equal,Op.maxDepth]
    first | exact eq_ptr_nil hd _ 9999 | exact eq_nil_ptr hd _ 9999
   ·rintro op (rfl | rfl)<;>simp [binOp]
  ·cases h
 ·rename_i e id ver off hd
  split at h
  ·rename_i hf
   simp only [Option.some.injEq] at h; subst h
   have ha':=rel_sc ha
   subst ha'
   obtain ⟨b,oo,sz,cs,fz,_,_,rfl⟩:=ptr_fit (β:=β) (S:=S) (w:=w) (off:=off) (u:=ub) hb hf
   refine ⟨fun op x y=>eqGuard_one op t x y _ _ (by simp) (by simp),?_,?_⟩
   ·simp only [Op.equal,Op.maxDepth]
    first | exact eq_ptr_nil hd _ 9999 | exact eq_nil_ptr hd _ 9999
   ·rintro op (rfl | rfl)<;>simp [binOp]
  ·cases h
 ·rename_i e hd
  simp only [Option.some.injEq] at h; subst h
  have ha':=rel_sc ha
  subst ha'
  have hb':=rel_sc hb
  subst hb'
  refine ⟨fun op x y=>eqGuard_one op t x y _ _ (by simp) (by simp),?_,?_⟩
  ·simp only [Op.equal,Op.maxDepth]
   exact eq_nil_nil hd 9999
  ·rintro op (rfl | rfl)<;>simp [binOp]
 ·rename_i e ad n cap hd
  simp only [Option.some.injEq] at h; subst h
  have ha':=rel_sc ha
  subst ha'
  have hb':=rel_sc hb
  subst hb'
  refine ⟨fun op x y=>eqGuard_one op t x y _ _ (by simp) (by simp),?_,?_⟩
  ·simp only [Op.equal,Op.maxDepth]
   exact eq_slice_nil hd _ n cap 9999
  ·rintro op (rfl | rfl)<;>simp [binOp]
 ·rename_i e n cap hd
  simp only [Option.some.injEq] at h; subst h
  have ha':=rel_sc ha
  subst ha'
  have hb':=rel_sc hb
  subst hb'
  refine ⟨fun op x y=>eqGuard_one op t x y _ _ (by simp) (by simp),?_,?_⟩
  ·simp only [Op.equal,Op.maxDepth]
   exact eq_slice_nil hd _ n cap 9999
  ·rintro op (rfl | rfl)<;>simp [binOp]
 ·rename_i e n cs hd
  split at h
  ·cases h
  ·rename_i hn
   simp only [Option.some.injEq] at h; subst h
   have hb':=rel_sc hb
   subst hb'
   have ha':RelC β hp S w (.sl n cs) ua:=ha
   simp only [RelC,RelP] at ha'
   obtain ⟨ad,cap,rfl,_,_,hc⟩:=ha'
   rcases hc with ⟨h0,_⟩ | ⟨b,oo,rfl,_⟩
   ·exact absurd h0 hn
   refine ⟨fun op x y=>eqGuard_one op t x y _ _ (by simp) (by simp),?_,?_⟩
   ·simp only [Op.equal,Op.maxDepth]
    exact eq_slice_nil hd _ n cap 9999
   ·rintro op (rfl | rfl)<;>simp [binOp]
 ·cases h
theorem bin_sound {op:BinOp} {t:TypeId} {a b:D} {ua ub:Value} (x y:Operand) (h:bin P hp op t a b=some (d,ps)) (hps:∀ p∈ps,p) (ha:RelD β hp S w a ua) (hb:RelD β hp S w b ub):
  ∃ v,(do eqGuard op t x y ua ub; binOp op t ua ub:Sem Value).run P w=.ok v w∧RelD β hp S w d v:=by
 unfold bin at h
 split at h
 ·rename_i k a k' b
  obtain rfl:=rel_int ha
  obtain rfl:=rel_int hb
  obtain ⟨v,h1,h2⟩:=shiftInt_sound (kb:=k') t h hps
  refine ⟨v,?_,h2⟩
  rw [Sem.run_bind,eqGuard_one _ _ _ _ _ _ (by simp) (by simp)]
  exact h1
 ·rename_i k a k' b
  obtain rfl:=rel_int ha
  obtain rfl:=rel_int hb
  obtain ⟨v,h1,h2⟩:=shiftInt_sound (kb:=k') t h hps
  refine ⟨v,?_,h2⟩
  rw [Sem.run_bind,eqGuard_one _ _ _ _ _ _ (by simp) (by simp)]
  exact h1
 ·rename_i k a k' b hs1 hs2
  split at h
  ·rename_i hk
   subst hk
   obtain rfl:=rel_int ha
   obtain rfl:=rel_int hb
   obtain ⟨v,h1,h2⟩:=binInt_sound (k:=k) t ⟨by rintro rfl; first | exact hs1 rfl rfl rfl | exact hs1 _ _ _ _ rfl rfl rfl | simp_all,by rintro rfl; first | exact hs2 rfl rfl rfl | exact hs2 _ _ _ _ rfl rfl rfl | simp_all⟩ h hps
   refine ⟨v,?_,h2⟩
   rw [Sem.run_bind,eqGuard_one _ _ _ _ _ _ (by simp) (by simp)]
   exact h1
  ·cases h
 ·rename_i a b
  simp only [Option.some.injEq,Prod.mk.injEq] at h
  obtain ⟨rfl,rfl⟩:=h
  obtain rfl:=rel_sc ha
  obtain rfl:=rel_sc hb
  refine ⟨.bool (a==b),?_,mk_bool _⟩
  rw [Sem.run_bind,eqGuard_one _ _ _ _ _ _ (by simp) (by simp)]
  simp [binOp,Op.stringOp,beq_toListBytes]
 ·rename_i a b
  simp only [Option.some.injEq,Prod.mk.injEq] at h
  obtain ⟨rfl,rfl⟩:=h
  obtain rfl:=rel_sc ha
  obtain rfl:=rel_sc hb
  refine ⟨.bool (!(a==b)),?_,mk_bool _⟩
  rw [Sem.run_bind,eqGuard_one _ _ _ _ _ _ (by simp) (by simp)]
  simp [binOp,Op.stringOp,bne,beq_toListBytes]
 ·simp only [Option.map_eq_some_iff,Prod.mk.injEq] at h
  obtain ⟨r,hr,rfl,rfl⟩:=h
  obtain ⟨g1,g2,g3⟩:=eqD_sound hr ha hb
  refine ⟨.bool r,?_,mk_bool _⟩
  rw [Sem.run_bind,g1]
  simp only [Result.andThen_ok]
  rw [g3 _ (.inl rfl),g2]
  simp
 ·simp only [Option.map_eq_some_iff,Prod.mk.injEq] at h
  obtain ⟨r,hr,rfl,rfl⟩:=h
  obtain ⟨g1,g2,g3⟩:=eqD_sound hr ha hb
  refine ⟨.bool (!r),?_,mk_bool _⟩
  rw [Sem.run_bind,g1]
  simp only [Result.andThen_ok]
  rw [g3 _ (.inr rfl),g2]
  simp
 ·cases h
theorem op_binOp (h:HRel β hp S w Wr) (hρ:∀ x,RelD β hp S w (ρ x) (ρv x)) {op:BinOp} {t yt:TypeId} {a b:Operand} (ho:o.op=.binOp op t a b yt) (hop:opx P o ρ hp os=some (d,hp',os',ps)) (hps:∀ p∈ps,p):OpRun P Wr S β hp w ρv o d hp':=by
 unfold opx at hop
 rw [ho] at hop
 simp only [Option.map_eq_some_iff,Prod.mk.injEq] at hop
 obtain ⟨⟨d0,ps0⟩,h1,rfl,rfl,rfl,rfl⟩:=hop
 obtain ⟨v,g1,g2⟩:=bin_sound a b h1 hps (hρ a) (hρ b)
 refine OpRun.value h (v:=v) ?_ g2
 simp only [execOp,ho]
 rw [Sem.run_bind,g1]
 rfl
theorem op_unOp (h:HRel β hp S w Wr) (hρ:∀ x,RelD β hp S w (ρ x) (ρv x)) {op:UnOp} {t:TypeId} {a:Operand} (ho:o.op=.unOp op t a) (hop:opx P o ρ hp os=some (d,hp',os',ps)):OpRun P Wr S β hp w ρv o d hp':=by
 unfold opx at hop
 rw [ho] at hop
 simp only at hop
 split at hop
 ·rename_i b hb
  simp only [Option.some.injEq,Prod.mk.injEq] at hop
  obtain ⟨rfl,rfl,rfl,rfl⟩:=hop
  have e:=hρ a
  rw [hb] at e
  have e:=rel_bool e
  exact OpRun.value h (v:=.bool (!b)) (by simp [execOp,ho,e,Op.unary]) (mk_bool _)
 ·rename_i k n hb
  simp only [Option.some.injEq,Prod.mk.injEq] at hop
  obtain ⟨rfl,rfl,rfl,rfl⟩:=hop
  have e:=hρ a
  rw [hb] at e
  have e:=rel_int e
  exact OpRun.value h (v:=.int k (k.wrap (0 - n))) (by simp [execOp,ho,e,Op.unary,Op.intArith]) (mk_int _ _)
 ·rename_i k n hb
  simp only [Option.some.injEq,Prod.mk.injEq] at hop
  obtain ⟨rfl,rfl,rfl,rfl⟩:=hop
  have e:=hρ a
  rw [hb] at e
  have e:=rel_int e
  exact OpRun.value h (by simp [execOp,ho,e,Op.unary,Op.intBits]) (mk_int _ _)
 ·cases hop
theorem op_convert (h:HRel β hp S w Wr) (hρ:∀ x,RelD β hp S w (ρ x) (ρv x)) {src dst:TypeId} {a:Operand} (ho:o.op=.convert src dst a) (hop:opx P o ρ hp os=some (d,hp',os',ps)):OpRun P Wr S β hp w ρv o d hp':=by
 unfold opx at hop
 rw [ho] at hop
 simp only at hop
 split at hop
 ·rename_i ds k k1 n hs hd hb
  simp only [Option.some.injEq,Prod.mk.injEq] at hop
  obtain ⟨rfl,rfl,rfl,rfl⟩:=hop
  have e:=hρ a
  rw [hb] at e
  have e:=rel_int e
  exact OpRun.value h (v:=.int k (k.wrap n)) (by simp [execOp,ho,e,convert,run_underlying hs,run_underlying hd,Conv.intToInt]) (mk_int _ _)
 ·rename_i ds s hs hd hb
  simp only [Option.some.injEq,Prod.mk.injEq] at hop
  obtain ⟨rfl,rfl,rfl,rfl⟩:=hop
  have e:=hρ a
  rw [hb] at e
  have e:=rel_sc e
  exact OpRun.value h (v:=.string s) (by simp [execOp,ho,e,convert,run_underlying hs,run_underlying hd]) (mk_sc rfl)
 ·cases hop
end
end Go.Vm

namespace Go.Vm
set_option linter.unusedVariables false
set_option linter.unusedSimpArgs false
section
variable {P:Program} {Wr:Nat→Prop} {S:Nat→Nat→Prop} {β:Nat→Option (Nat × Nat)} {hp hp':List Ob} {w:World} {ρ:Operand→D} {ρv:Operand→Value} {o:Oper} {d:D} {os os':List Or} {ps:List Prop}
theorem rel_one {c:C} {u:Value} (hρ:RelD β hp S w d u) (h:d=.v (.one c)):RelC β hp S w c u:=by subst h; exact hρ
theorem ptr_add {id ver off k:Nat} {a:Addr} (h:RelC β hp S w (.ptr id ver off) (.pointer (some a))):RelC β hp S w (.ptr id ver (off+k)) (.pointer (some (a.add k))):=by
 simp only [RelC,RelP] at h ⊢
 obtain ⟨_,hlt,hs⟩:=h
 refine ⟨⟨_,rfl⟩,hlt,fun sz ver' cs fz hid=> ?_⟩
 obtain ⟨hle,hs⟩:=hs sz ver' cs fz hid
 refine ⟨hle,fun e=> ?_⟩
 obtain ⟨b,oo,hb,hu⟩:=hs e
 simp only [Value.pointer.injEq,Option.some.injEq] at hu
 subst hu
 exact ⟨b,oo,hb,by rw [Addr.add_mid,Nat.add_assoc]⟩
theorem op_fieldAddr (h:HRel β hp S w Wr) (hρ:∀ x,RelD β hp S w (ρ x) (ρv x)) {s:TypeId} {a:Operand} {f:Nat} (ho:o.op=.fieldAddr s a f) (hop:opx P o ρ hp os=some (d,hp',os',ps)) (hps:∀ p∈ps,p):OpRun P Wr S β hp w ρv o d hp':=by
 unfold opx at hop
 rw [ho] at hop
 simp only at hop
 have hfield:∀ ff,fieldOf P s f=some ff→∃ fs,P.underlying s=some (.struct fs)∧fs[f]? =some ff:=by
  intro ff hff
  unfold fieldOf at hff
  split at hff
  ·rename_i fs hfs; exact ⟨fs,hfs,hff⟩
  ·cases hff
 split at hop
 ·rename_i ff id ver off hff ha
  obtain ⟨fs,hfs,hfi⟩:=hfield _ hff
  split at hop
  ·rename_i i hi
   split at hop
   ·rename_i hpos
    obtain ⟨hsz,hfit⟩:=hpos
    simp only [Option.some.injEq,Prod.mk.injEq] at hop
    obtain ⟨rfl,rfl,rfl,rfl⟩:=hop
    have hp0:RelC β hp S w (.ptr id ver off) (ρv a):=rel_one (hρ a) ha
    obtain ⟨b,oo,sz,cs,fz,hid,hb,hu⟩:=ptr_fit hp0 hfit
    rw [hu] at hp0
    refine OpRun.value h (v:=.pointer (some ((⟨b,oo+off,none⟩:Addr).add ff.offset))) ?_ (ptr_add hp0)
    have hne:¬ i.size=0:=by omega
    simp [execOp,ho,hu,Instr.fieldAt,run_underlying hfs,hfi,Instr.sureAddr,fieldPlace,sizeOf,typeInfo,hi,hne]
   ·cases hop
  ·cases hop
 ·rename_i ff cs off hff ha
  obtain ⟨fs,hfs,hfi⟩:=hfield _ hff
  split at hop
  ·rename_i i hi
   split at hop
   ·rename_i hsz
    simp only [Option.some.injEq,Prod.mk.injEq] at hop
    obtain ⟨rfl,rfl,rfl,rfl⟩:=hop
    have hp0:RelC β hp S w (.loc cs off) (ρv a):=rel_one (hρ a) ha
    simp only [RelC,RelP] at hp0
    obtain ⟨b,oo,hu,hat⟩:=hp0
    refine OpRun.value h (v:=.pointer (some ((⟨b,oo+off,none⟩:Addr).add ff.offset))) ?_ ?_
    ·have hne:¬ i.size=0:=by omega
     simp [execOp,ho,hu,Instr.fieldAt,run_underlying hfs,hfi,Instr.sureAddr,fieldPlace,sizeOf,typeInfo,hi,hne]
    ·show RelC _ _ _ _ _ _
     simp only [RelC,RelP]
     exact ⟨b,oo,by rw [Addr.add_mid,Nat.add_assoc],hat⟩
   ·cases hop
  ·cases hop
 ·cases hop
theorem op_field (h:HRel β hp S w Wr) (hρ:∀ x,RelD β hp S w (ρ x) (ρv x)) {s:TypeId} {a:Operand} {f:Nat} (ho:o.op=.field s a f) (hop:opx P o ρ hp os=some (d,hp',os',ps)):OpRun P Wr S β hp w ρv o d hp':=by
 unfold opx at hop
 rw [ho] at hop
 simp only at hop
 split at hop
 ·rename_i ff cs hff ha
  have hfield:∃ fs,P.underlying s=some (.struct fs)∧fs[f]? =some ff:=by
   unfold fieldOf at hff
   split at hff
   ·rename_i fs hfs; exact ⟨fs,hfs,hff⟩
   ·cases hff
  obtain ⟨fs,hfs,hfi⟩:=hfield
  split at hop
  ·rename_i agg n ht
   split at hop
   ·rename_i v hw
    split at hop
    ·rename_i hlen
     simp only [Option.some.injEq,Prod.mk.injEq] at hop
     obtain ⟨rfl,rfl,rfl,rfl⟩:=hop
     have h1:=hρ a
     rw [ha] at h1
     obtain ⟨us,hu,hr⟩:=(h1:RelV β hp S w (.agg cs) (ρv a))
     have hr':=(hr.drop ff.offset).take n
     have hv:=RelV.wrap hr' hw
     have hp:=run_part (P:=P) (us:=us.toList) (off:=ff.offset) ht (fun hagg=>by subst hagg; obtain ⟨c,hc⟩:=wrap_one hw; rw [hr'.length,hc]; rfl) w
     refine OpRun.value h (v:=valOf agg ((us.toList.drop ff.offset).take n)) ?_ (by unfold valOf; exact hv)
     simp only [Array.toArray_toList] at hp
     simp [execOp,ho,hu,Instr.field,run_underlying hfs,hfi,asAgg,hp]
    ·cases hop
   ·cases hop
  ·cases hop
 ·cases hop
theorem op_indexAddr (h:HRel β hp S w Wr) (hρ:∀ x,RelD β hp S w (ρ x) (ρv x)) {t:TypeId} {a i:Operand} (ho:o.op=.indexAddr t a i) (hop:opx P o ρ hp os=some (d,hp',os',ps)) (hps:∀ p∈ps,p):OpRun P Wr S β hp w ρv o d hp':=by
 unfold opx at hop
 rw [ho] at hop
 simp only at hop
 split at hop
 ·rename_i e n cs k i0 ht ha hi
  split at hop
  ·rename_i ie hie
   simp only [Option.some.injEq,Prod.mk.injEq] at hop
   obtain ⟨rfl,rfl,rfl,rfl⟩:=hop
   obtain ⟨h0,h1⟩:0≤i0∧i0<n:=hps _ (by simp)
   have hp0:RelC β hp S w (.sl n cs) (ρv a):=rel_one (hρ a) ha
   have hui:=rel_int (hi ▸ hρ i)
   simp only [RelC,RelP] at hp0
   obtain ⟨ad,cap,hu,hcap,_,hat⟩:=hp0
   rcases hat with hat | ⟨b,oo,rfl,hat⟩
   ·omega
   refine OpRun.value h (v:=.pointer (some ((⟨b,oo,none⟩:Addr).add (i0.toNat*ie.size)))) ?_ ?_
   ·simp [execOp,ho,hu,hui,Instr.indexAt,asIntOf,run_underlying ht,h0,h1,sizeOf,typeInfo,hie]
   ·show RelC _ _ _ _ _ _
    simp only [RelC,RelP]
    exact ⟨b,oo,by rw [Addr.add_mid],hat⟩
  ·cases hop
 ·rename_i e id ver off n k i0 ht ha hi
  split at hop
  ·rename_i ie sz ver' cs fz hie hid
   split at hop
   ·rename_i hc
    obtain ⟨rfl,rfl⟩:=hc
    simp only [Option.some.injEq,Prod.mk.injEq] at hop
    obtain ⟨rfl,rfl,rfl,rfl⟩:=hop
    obtain ⟨h0,h1⟩:0≤i0∧i0<n:=hps _ (by simp)
    have hp0:RelC β hp S w (.ar id ver off n) (ρv a):=rel_one (hρ a) ha
    have hui:=rel_int (hi ▸ hρ i)
    simp only [RelC,RelP] at hp0
    obtain ⟨_,hlt,hs⟩:=hp0
    obtain ⟨_,hs⟩:=hs _ ver cs fz hid
    obtain ⟨hlen,hs⟩:=hs rfl
    rcases hs with ⟨hn,_⟩ | ⟨b,oo,cap,e',arr,fr,hb,hu,hcap,hbk,_⟩
    ·omega
    refine OpRun.value h (v:=.pointer (some ((⟨b,oo+off,none⟩:Addr).add (i0.toNat*ie.size)))) ?_ ?_
    ·simp [execOp,ho,hu,hui,Instr.indexAt,asIntOf,run_underlying ht,h0,h1,sizeOf,typeInfo,hie]
    ·show RelC _ _ _ _ _ _
     simp only [RelC,RelP]
     refine ⟨⟨_,rfl⟩,hlt,fun sz2 ver2 cs2 fz2 hid2=> ?_⟩
     rw [hid] at hid2
     simp only [Option.some.injEq,Ob.cells.injEq] at hid2
     obtain ⟨rfl,rfl,rfl,rfl⟩:=hid2
     exact ⟨Nat.le_refl _,fun _=>⟨b,oo,hb,by rw [Addr.add_mid,Nat.add_assoc]⟩⟩
   ·cases hop
  ·cases hop
 ·rename_i n e id ver off k i0 ht ha hi
  split at hop
  ·rename_i ie j os1 hie
   split at hop
   ·rename_i hfit
    simp only [Option.some.injEq,Prod.mk.injEq] at hop
    obtain ⟨rfl,rfl,rfl,rfl⟩:=hop
    have h0:i0=(j:Int):=hps _ (by simp)
    have h1:j<n:=hps _ (by simp)
    subst h0
    have hp0:RelC β hp S w (.ptr id ver off) (ρv a):=rel_one (hρ a) ha
    have hui:=rel_int (hi ▸ hρ i)
    obtain ⟨b,oo,sz,cs,fz,hid,hb,hu⟩:=ptr_fit hp0 hfit
    rw [hu] at hp0
    refine OpRun.value h (v:=.pointer (some ((⟨b,oo+off,none⟩:Addr).add (j*ie.size)))) ?_ (ptr_add hp0)
    have hj:(j:Int)<(n:Int):=by omega
    simp [execOp,ho,hu,hui,Instr.indexAt,asIntOf,run_underlying ht,sizeOf,typeInfo,hie,Instr.sureAddr,h1]
   ·cases hop
  ·cases hop
 ·cases hop
theorem relL_mapM {ρ:Operand→D} {ρv:Operand→Value} (hρ:∀ x,RelD β hp S w (ρ x) (ρv x)):∀ (l:List Operand) (cs:List C),((l.map ρ).mapM fun | .v (.one c)=>some c | _=>none)=some cs→RelL β hp S w cs (l.map ρv)
 | [],cs,h=>by simp at h; subst h; simp [RelL]
 | x::l,cs,h=>by
  simp only [List.map_cons,List.mapM_cons,Option.bind_eq_bind,Option.bind_eq_some_iff,Option.pure_def,Option.some.injEq] at h
  obtain ⟨c,hc,cs',hcs,rfl⟩:=h
  simp only [List.map_cons,RelL]
  refine ⟨ρv x,l.map ρv,rfl,?_,relL_mapM hρ l cs' hcs⟩
  split at hc
  ·rename_i c' hx
   simp only [Option.some.injEq] at hc
   subst hc
   exact rel_one (hρ x) hx
  ·cases hc
theorem op_makeFunc (h:HRel β hp S w Wr) (hρ:∀ x,RelD β hp S w (ρ x) (ρv x)) {f:FuncId} {first caps:Array Operand} (ho:o.op=.makeFunc (.func f) first caps) (hop:opx P o ρ hp os=some (d,hp',os',ps)):OpRun P Wr S β hp w ρv o d hp':=by
 unfold opx at hop
 rw [ho] at hop
 simp only at hop
 split at hop
 ·rename_i h0
  split at hop
  ·rename_i cs hcs
   simp only [Option.some.injEq,Prod.mk.injEq] at hop
   obtain ⟨rfl,rfl,rfl,rfl⟩:=hop
   have hr:=relL_mapM hρ caps.toList cs hcs
   have hf0:first= #[]:=Array.eq_empty_of_size_eq_zero h0
   refine OpRun.value h (v:=.func (.func f) #[] (caps.map ρv)) (by simp [execOp,ho,Instr.makeFunc,hf0]) ?_
   show RelC _ _ _ _ _ _
   simp only [RelC,RelP]
   exact ⟨_,rfl,by simpa using hr⟩
  ·cases hop
 ·cases hop
theorem map_two {α γ:Type} {f:α→γ} :∀ {l:List α} {x y:γ},l.map f= [x,y]→∃ a b,l= [a,b]∧f a=x∧f b=y
 | [],_,_,h=>by simp at h
 | [a],_,_,h=>by simp at h
 | [a,b],_,_,h=>by simp at h; exact ⟨a,b,rfl,h.1,h.2⟩
 | a::b::c::l,_,_,h=>by simp at h
theorem map_one {α γ:Type} {f:α→γ} :∀ {l:List α} {x:γ},l.map f= [x]→∃ a,l= [a]∧f a=x
 | [],_,h=>by simp at h
 | [a],_,h=>by simp at h; exact ⟨a,rfl,h⟩
 | a::b::l,_,h=>by simp at h
theorem toList_one {α:Type} {a:Array α} {x:α} (h:a.toList= [x]):a= #[x]:=by rw [← Array.toArray_toList (xs:=a),h]
theorem toList_two {α:Type} {a:Array α} {x y:α} (h:a.toList= [x,y]):a= #[x,y]:=by rw [← Array.toArray_toList (xs:=a),h]
theorem op_len (h:HRel β hp S w Wr) (hρ:∀ x,RelD β hp S w (ρ x) (ρv x)) {c:Call} (ho:o.op=.call c) (hc:c.callee=.builtin .len) (hop:opx P o ρ hp os=some (d,hp',os',ps)):OpRun P Wr S β hp w ρv o d hp':=by
 unfold opx at hop
 rw [ho] at hop
 simp only [hc] at hop
 split at hop
 ·rename_i n cs e hargs hts
  simp only [Option.some.injEq,Prod.mk.injEq] at hop
  obtain ⟨rfl,rfl,rfl,rfl⟩:=hop
  obtain ⟨a,ha,hx⟩:=map_one hargs
  obtain ⟨t,ht,hxt⟩:=map_one hts
  have hp0:RelC β hp S w (.sl n cs) (ρv a):=rel_one (hρ a) hx
  simp only [RelC,RelP] at hp0
  obtain ⟨ad,cap,hu,_⟩:=hp0
  refine OpRun.value h (v:=.int .i64 n) ?_ (mk_int _ _)
  simp [execOp,ho,resolve,hc,toList_one ha,toList_one ht,invoke,builtin,Builtin.len_,run_underlying hxt,hu,goInt]
 ·rename_i e hargs hts
  simp only [Option.some.injEq,Prod.mk.injEq] at hop
  obtain ⟨rfl,rfl,rfl,rfl⟩:=hop
  obtain ⟨a,ha,hx⟩:=map_one hargs
  obtain ⟨t,ht,hxt⟩:=map_one hts
  have hu:=rel_sc (hx ▸ hρ a)
  refine OpRun.value h (v:=.int .i64 0) ?_ (mk_int _ _)
  simp [execOp,ho,resolve,hc,toList_one ha,toList_one ht,invoke,builtin,Builtin.len_,run_underlying hxt,hu,goInt]
 ·rename_i id ver off n e hargs hts
  split at hop
  ·rename_i hfit
   simp only [Option.some.injEq,Prod.mk.injEq] at hop
   obtain ⟨rfl,rfl,rfl,rfl⟩:=hop
   obtain ⟨a,ha,hx⟩:=map_one hargs
   obtain ⟨t,ht,hxt⟩:=map_one hts
   have hp0:RelC β hp S w (.ar id ver off n) (ρv a):=rel_one (hρ a) hx
   simp only [RelC,RelP] at hp0
   obtain ⟨_,hlt,hs⟩:=hp0
   rw [List.getElem?_eq_getElem hlt] at hfit
   simp only [Option.any_some] at hfit
   cases hob:hp[id] with
   | gone=>rw [hob] at hfit; simp [Ob.fit] at hfit
   | map es=>rw [hob] at hfit; simp [Ob.fit] at hfit
   | cells sz ver' cs fz=>
    rw [hob] at hfit
    simp only [Ob.fit,beq_iff_eq] at hfit
    obtain ⟨_,hs⟩:=hs sz ver' cs fz (by rw [List.getElem?_eq_getElem hlt,hob])
    obtain ⟨_,hs⟩:=hs hfit.symm
    have hu:∃ ad cap,ρv a=.slice ad n cap:=by
     rcases hs with ⟨hn,_,ad,hu⟩ | ⟨b,oo,cap,e',arr,fr,hb,hu,_⟩
     ·exact ⟨ad,0,by rw [hu,hn]⟩
     ·exact ⟨_,cap,hu⟩
    obtain ⟨ad,cap,hu⟩:=hu
    refine OpRun.value h (v:=.int .i64 n) ?_ (mk_int _ _)
    simp [execOp,ho,resolve,hc,toList_one ha,toList_one ht,invoke,builtin,Builtin.len_,run_underlying hxt,hu,goInt]
  ·cases hop
 ·rename_i s hargs hts
  simp only [Option.some.injEq,Prod.mk.injEq] at hop
  obtain ⟨rfl,rfl,rfl,rfl⟩:=hop
  obtain ⟨a,ha,hx⟩:=map_one hargs
  obtain ⟨t,ht,hxt⟩:=map_one hts
  have hu:=rel_sc (hx ▸ hρ a)
  refine OpRun.value h (v:=.int .i64 s.size) ?_ (mk_int _ _)
  simp [execOp,ho,resolve,hc,toList_one ha,toList_one ht,invoke,builtin,Builtin.len_,run_underlying hxt,hu,goInt]
 ·cases hop
theorem op_minmax (h:HRel β hp S w Wr) (hρ:∀ x,RelD β hp S w (ρ x) (ρv x)) {c:Call} (ho:o.op=.call c) (hc:c.callee=.builtin .min∨c.callee=.builtin .max) (hop:opx P o ρ hp os=some (d,hp',os',ps)):OpRun P Wr S β hp w ρv o d hp':=by
 unfold opx at hop
 rw [ho] at hop
 rcases hc with hc | hc
 ·simp only [hc] at hop
  split at hop
  ·rename_i k a0 k' b0 hargs
   simp only [Option.some.injEq,Prod.mk.injEq] at hop
   obtain ⟨rfl,rfl,rfl,rfl⟩:=hop
   obtain ⟨a,b,ha,hx,hy⟩:=map_two hargs
   have hu:=rel_int (hx ▸ hρ a)
   have hv:=rel_int (hy ▸ hρ b)
   refine OpRun.value h (v:=.int k (if b0<a0 then b0 else a0)) ?_ (mk_int _ _)
   simp [execOp,ho,resolve,hc,toList_two ha,invoke,builtin,Builtin.min_,Builtin.min2,hu,hv]
  ·cases hop
 ·simp only [hc] at hop
  split at hop
  ·rename_i k a0 k' b0 hargs
   simp only [Option.some.injEq,Prod.mk.injEq] at hop
   obtain ⟨rfl,rfl,rfl,rfl⟩:=hop
   obtain ⟨a,b,ha,hx,hy⟩:=map_two hargs
   have hu:=rel_int (hx ▸ hρ a)
   have hv:=rel_int (hy ▸ hρ b)
   refine OpRun.value h (v:=.int k (if a0<b0 then b0 else a0)) ?_ (mk_int _ _)
   simp [execOp,ho,resolve,hc,toList_two ha,invoke,builtin,Builtin.max_,Builtin.max2,hu,hv]
  ·cases hop
end
end Go.Vm

namespace Go.Vm
set_option linter.unusedVariables false
set_option linter.unusedSimpArgs false
section
variable {P:Program} {Wr:Nat→Prop} {S:Nat→Nat→Prop} {β:Nat→Option (Nat × Nat)} {H:List Ob} {hp hp':List Ob} {w w':World} {ρ:Operand→D} {ρv:Operand→Value} {o:Oper} {d:D} {os os':List Or} {ps:List Prop}
theorem ext_bump (β:Nat→Option (Nat × Nat)) (H:List Ob) (S:Nat→Nat→Prop) {id sz ver:Nat} {cs cs':List C} {fz fz':Bool} (p:Option (Nat × Nat)) (hid:H[id]? =some (.cells sz ver cs fz)):
  Ext β H S (upd β id p) (H.set id (.cells sz (ver+1) cs' fz')) S where
 len:=by simp
 ids:=fun i sz1 ver1 cs1 fz1 hi hH=>by
  rw [List.getElem?_set] at hH
  split at hH
  ·rename_i e
   subst e
   rw [if_pos hi] at hH
   simp only [Option.some.injEq,Ob.cells.injEq] at hH
   obtain ⟨rfl,rfl,rfl,rfl⟩:=hH
   exact ⟨ver,cs,fz,hid,by omega,fun e=>absurd e (by omega)⟩
  ·rename_i hne
   exact ⟨ver1,cs1,fz1,hH,Nat.le_refl _,fun _=>⟨rfl,upd_other β p (fun e=>hne e.symm)⟩⟩
 mps:=fun i es hi hH=>by
  have h0:=set_maps (by intro es h; cases h) i es hH
  refine ⟨es,h0,upd_other β p fun e=> ?_⟩
  subst e
  rw [hid] at h0; cases h0
 sub:=fun _ _ h=>h
theorem HRel.put (h:HRel β H S w Wr) (hv:Evo Wr S w w') {id sz ver':Nat} {cs':List C} {fz':Bool} {p:Option (Nat × Nat)} (hlt:id<H.length)
  (hx:Ext β H S (upd β id p) (H.set id (.cells sz ver' cs' fz')) S) (hsz:0<sz∧(ver'≠0→∀ c∈cs',plain c=true))
  (hoth:∀ i szi veri csi fzi bi oi,i≠id→H[i]? =some (.cells szi veri csi fzi)→β i=some (bi,oi)→w'.heap[bi]? =w.heap[bi]? ∧∀ b o,p=some (b,o)→bi≠b)
  (hnew:(p=none∧cs'= [])∨∃ b o arr e,p=some (b,o)∧w'.heap[b]? =some (.cells arr e (0,0))∧Wr b∧o+cs'.length≤arr.size∧
   (∀ j c,cs'[j]? =some c→∃ u,w'.cell? ⟨b,o+j,none⟩=some u∧RelC β H S w c u)∧(∀ k,S b k→k<o+(if fz' then cs'.length else 0)))
  (hmap:∀ (i:Nat) (es:List (Value × V)) (bi:Nat),H[i]? =some (Ob.map es)→β i=some (bi,0)→w'.heap[bi]? =w.heap[bi]?):
  HRel (upd β id p) (H.set id (.cells sz ver' cs' fz')) S w' Wr:=by
 refine ⟨fun i szi veri csi fzi hi=> ?_,fun i i' sz1 ver1 cs1 fz1 sz2 ver2 cs2 fz2 b1 o1 o2 h1 h2 h3 h4=> ?_,fun b1 o1 hs=>Nat.lt_of_lt_of_le (h.imm b1 o1 hs) hv.size,
  (h.stay hx hv (set_maps (by intro es h; cases h)) hmap).1,(h.stay hx hv (set_maps (by intro es h; cases h)) hmap).2⟩
 ·rw [List.getElem?_set] at hi
  split at hi
  ·rename_i e
   subst e
   simp only [hlt,if_true,Option.some.injEq,Ob.cells.injEq] at hi
   obtain ⟨rfl,rfl,rfl,rfl⟩:=hi
   refine ⟨hsz,?_⟩
   rw [upd_same]
   rcases hnew with hnew | ⟨b,o,arr,e,k1,k2,k3,k4,k5,k6⟩
   ·exact .inl hnew
   ·refine .inr ⟨b,o,arr,e,k1,k2,k3,k4,fun j c hc=> ?_,k6⟩
    obtain ⟨u,m1,m2⟩:=k5 j c hc
    exact ⟨u,m1,RelC.step hx hv c u m2⟩
  ·rename_i hne
   obtain ⟨hsz',h'⟩:=h.cells i szi veri csi fzi hi
   refine ⟨hsz',?_⟩
   rw [upd_other β p (fun e=>hne e.symm)]
   rcases h' with h' | ⟨b,o,arr,e,k1,k2,k3,k4,k5,k6⟩
   ·exact .inl h'
   ·obtain ⟨g1,_⟩:=hoth i _ _ _ _ b o (fun e=>hne e.symm) hi k1
    refine .inr ⟨b,o,arr,e,k1,by rw [g1]; exact k2,k3,k4,fun j c hc=> ?_,k6⟩
    obtain ⟨u,m1,m2⟩:=k5 j c hc
    exact ⟨u,(cell_of_heap g1 _).trans m1,RelC.step hx hv c u m2⟩
 ·rw [List.getElem?_set] at h1 h2
  by_cases e1:i=id
  ·by_cases e2:i'=id
   ·rw [e1,e2]
   ·rw [if_neg (fun e=>e2 e.symm)] at h2
    rw [e1,upd_same] at h3
    rw [upd_other β p e2] at h4
    exact absurd rfl ((hoth i' _ _ _ _ b1 o2 e2 h2 h4).2 b1 o1 h3)
  ·rw [if_neg (fun e=>e1 e.symm)] at h1
   rw [upd_other β p e1] at h3
   by_cases e2:i'=id
   ·rw [e2,upd_same] at h4
    exact absurd rfl ((hoth i _ _ _ _ b1 o1 e1 h1 h3).2 b1 o2 h4)
   ·rw [if_neg (fun e=>e2 e.symm)] at h2
    rw [upd_other β p e2] at h4
    exact h.inj i i' _ _ _ _ _ _ _ _ b1 o1 o2 h1 h2 h3 h4
theorem HRel.block_lt (h:HRel β H S w Wr) {i sz ver:Nat} {cs:List C} {fz:Bool} {b o:Nat} (hi:H[i]? =some (.cells sz ver cs fz)) (hb:β i=some (b,o)):b<w.heap.size:=by
 obtain ⟨_,h'⟩:=h.cells i sz ver cs fz hi
 rcases h' with h' | ⟨b',o',arr,e,k1,k2,_⟩
 ·rw [h'.1] at hb; cases hb
 ·rw [k1] at hb; injection hb with hb; injection hb with hb _; subst hb
  exact (Array.getElem?_eq_some_iff.1 k2).1
theorem slOf_sound (h:HRel β hp S w Wr) {sz n:Nat} {c:C} {cs:List C} {u:Value} (hs:slOf hp sz c=some (n,cs)) (hr:RelC β hp S w c u):
  ∃ a cap,u=.slice a n cap∧((n=0∧cs= [])∨∃ b o,a=some ⟨b,o,none⟩∧LiesP S w cs b o):=by
 unfold slOf at hs
 split at hs
 ·simp only [Option.some.injEq,Prod.mk.injEq] at hs
  obtain ⟨rfl,rfl⟩:=hs
  simp only [RelC,RelP] at hr
  exact ⟨_,_,hr.1,.inl ⟨rfl,rfl⟩⟩
 ·simp only [Option.some.injEq,Prod.mk.injEq] at hs
  obtain ⟨rfl,rfl⟩:=hs
  simp only [RelC,RelP] at hr
  obtain ⟨a,cap,hu,_,_,h3⟩:=hr
  refine ⟨a,cap,hu,?_⟩
  rcases h3 with h3 | ⟨b,o,ha,hat⟩
  ·exact .inl h3
  ·exact .inr ⟨b,o,ha,hat.liesP.1⟩
 ·rename_i id ver off n0
  split at hs
  ·rename_i sz' ver' cs0 fz hid
   split at hs
   ·rename_i hc
    obtain ⟨rfl,rfl,hv0⟩:=hc
    simp only [Option.some.injEq,Prod.mk.injEq] at hs
    obtain ⟨rfl,rfl⟩:=hs
    simp only [RelC,RelP] at hr
    obtain ⟨_,hlt,hs⟩:=hr
    obtain ⟨_,hs⟩:=hs sz ver cs0 fz hid
    obtain ⟨hlen,hs⟩:=hs rfl
    rcases hs with ⟨hn,_,a,hu⟩ | ⟨b,oo,cap,e',arr,fr,hb,hu,hcap,hbk,_⟩
    ·exact ⟨a,0,by rw [hu,hn],.inl ⟨hn,by rw [hn]; simp⟩⟩
    ·obtain ⟨hsz,h'⟩:=h.cells id sz ver cs0 fz hid
     rcases h' with h' | ⟨b',o',arr',e,k1,k2,k3,k4,k5,k6⟩
     ·rw [h'.1] at hb; cases hb
     rw [hb] at k1
     simp only [Option.some.injEq,Prod.mk.injEq] at k1
     obtain ⟨rfl,rfl⟩:=k1
     have hl:Lies β hp S w cs0 b oo:=k5
     exact ⟨_,cap,hu,.inr ⟨b,oo+off,rfl,((hl.plain (hsz.2 hv0)).drop off).take _⟩⟩
   ·cases hs
  ·cases hs
 ·cases hs
theorem run_firstCells {sz n:Nat} {c:C} {cs:List C} {u:Value} (h:HRel β hp S w Wr) (hs:slOf hp sz c=some (n,cs)) (hr:RelC β hp S w c u) (hl:cs.length=n*sz):
  ∃ us,(∀ c∈cs,plain c=true)∧(Builtin.lenOf u).run P w=.ok n w∧RelL β hp S w cs us∧∀ w1:World,w1.heap=w.heap→(Builtin.firstCells sz n u).run P w1=.ok us.toArray w1:=by
 obtain ⟨a,cap,rfl,h3⟩:=slOf_sound h hs hr
 rcases h3 with ⟨rfl,rfl⟩ | ⟨b,o,rfl,hl2⟩
 ·refine ⟨[],by simp,rfl,by simp [RelL],fun w1 _=> ?_⟩
  cases a with
  | none=>simp [Builtin.firstCells]
  | some a=>simp [Builtin.firstCells,loadCells,loadCellsFrom]
 ·obtain ⟨us,h1,h2⟩:=(hl2.lies (β:=β) (H:=hp)).values
  refine ⟨us,hl2.plain,rfl,h1,fun w1 hw=> ?_⟩
  exact run_firstCells_some (P:=P) w1 sz n ⟨b,o,none⟩ n cap us (by rw [h1.length,hl]) (fun j v hv=>by rw [Addr.add_mid,cell_of_heap (w:=w) (w':=w1) (by rw [hw])]; exact h2 j v hv)
theorem run_append_room_gen {t ty e:TypeId} {i:TypeInfo} (ht:P.underlying t=some (.slice e)) (hi:P.info? e=some i) (b off sLen sCap m:Nat) (x:Value) (us:List Value)
  (hlen:(Builtin.lenOf x).run P w=.ok m w) (hf:(Builtin.firstCells i.size m x).run P w=.ok us.toArray w) (h1:∀ u∈us,u.oneCell'=true)
  (hroom:sLen+m≤sCap) (hc:∀ j,j<us.length→(w.cell? ⟨b,off+sLen*i.size+j,none⟩).isSome=true) (hfz:∀ j,j<us.length→w.frozen? ⟨b,off+sLen*i.size+j,none⟩=false):
  (Builtin.append_ #[t,t] ty #[.slice (some ⟨b,off,none⟩) sLen sCap,x]).run P w=.ok (.slice (some ⟨b,off,none⟩) (sLen+m) sCap) (w.setCells b (off+sLen*i.size) us):=by
 have hst:=run_storeCells_cells (P:=P) b (off+sLen*i.size) us 0 w (by simpa using hc) (by simpa using hfz) h1
 simp only [Nat.add_zero] at hst
 simp [Builtin.append_,run_underlying ht,sizeOf,typeInfo,hi,hlen,hroom,hf,Addr.add_mid,hst]
theorem run_append_same_gen {t ty e:TypeId} {i:TypeInfo} (ht:P.underlying t=some (.slice e)) (hi:P.info? e=some i) (a:Option Addr) (x:Value)
  (hlen:(Builtin.lenOf x).run P w=.ok 0 w) (hf:(Builtin.firstCells i.size 0 x).run P w=.ok #[] w):
  (Builtin.append_ #[t,t] ty #[.slice a 0 0,x]).run P w=.ok (.slice a 0 0) w:=by
 cases a<;>simp [Builtin.append_,run_underlying ht,sizeOf,typeInfo,hi,hlen,hf,storeCells]
theorem run_append_grow_gen {t ty e:TypeId} {i:TypeInfo} {z:Value} (ht:P.underlying t=some (.slice e)) (hi:P.info? e=some i) (hz:i.zero=some z) (a:Option Addr) (sLen sCap m:Nat) (x:Value) (olds us:List Value)
  (hlen:(Builtin.lenOf x).run P w=.ok m w) (hf:(Builtin.firstCells i.size m x).run P w.drew=.ok us.toArray w.drew) (hfo:(Builtin.firstCells i.size sLen (.slice a sLen sCap)).run P w.drew=.ok olds.toArray w.drew)
  (hg:sCap<sLen+m) (h63:((sLen+m:Nat):Int)≤9223372036854775807) (hfit:Builtin.nextslicecap (sLen+m) sCap*i.bytes≤281474976710656):
  (Builtin.append_ #[t,t] ty #[.slice a sLen sCap,x]).run P w=
   .ok (.slice (some ⟨w.heap.size,0,none⟩) (sLen+m) (grownCap w (sLen+m) sCap e))
    (w.drew.alloc (.cells ((olds++us)++(Builtin.zeroCells z.cells (grownCap w (sLen+m) sCap e - (sLen+m))).toList).toArray e)):=by
 have hn:¬ (sLen+m≤sCap):=by omega
 have h63':¬ (9223372036854775807<((sLen:Int)+(m:Int))):=by omega
 have h48':¬ (281474976710656<Builtin.nextslicecap (sLen+m) sCap*i.bytes):=by omega
 simp [Builtin.append_,run_underlying ht,sizeOf,typeInfo,zeroValue,hi,hz,hlen,hn,h63',h48',Question.forced,hf,hfo,newRow,grownCap]
 congr 2
 apply Array.ext'
 simp [List.append_assoc]
end
end Go.Vm

namespace Go.Vm
set_option linter.unusedVariables false
set_option linter.unusedSimpArgs false
section
variable {P:Program} {Wr:Nat→Prop} {S:Nat→Nat→Prop} {β:Nat→Option (Nat × Nat)} {H:List Ob} {hp hp':List Ob} {w w':World} {ρ:Operand→D} {ρv:Operand→Value} {o:Oper} {d:D} {os os':List Or} {ps:List Prop}
theorem relAr_new {sz ver n cap b:Nat} {cs:List C} {fz:Bool} {w1:World} {arr:Array Value} {e:TypeId} (hb:w1.heap[b]? =some (.cells arr e (0,0))) (hn:n≤cap) (hlen:n*sz≤cs.length) (hcap:cap*sz≤arr.size) (hroom:cs.length≤cap*sz):
  RelC (upd β hp.length (some (b,0))) (hp++ [.cells sz ver cs fz]) S w1 (.ar hp.length ver 0 n) (.slice (some ⟨b,0,none⟩) n cap):=by
 simp only [RelC,RelP]
 refine ⟨⟨_,_,_,rfl⟩,by simp,fun sz' ver' cs' fz' hH=> ?_⟩
 simp only [List.getElem?_concat_length,Option.some.injEq,Ob.cells.injEq] at hH
 obtain ⟨rfl,rfl,rfl,rfl⟩:=hH
 exact ⟨Nat.le_refl _,fun _=>⟨by omega,.inr ⟨b,0,cap,e,arr,(0,0),upd_same _ _ _,rfl,hn,hb,by omega,by omega⟩⟩⟩
theorem relAr_nil {sz ver:Nat} {fz:Bool} {w1:World} (a:Option Addr):RelC (upd β hp.length none) (hp++ [.cells sz ver [] fz]) S w1 (.ar hp.length ver 0 0) (.slice a 0 0):=by
 simp only [RelC,RelP]
 refine ⟨⟨_,_,_,rfl⟩,by simp,fun sz' ver' cs' fz' hH=> ?_⟩
 simp only [List.getElem?_concat_length,Option.some.injEq,Ob.cells.injEq] at hH
 obtain ⟨rfl,rfl,rfl,rfl⟩:=hH
 exact ⟨Nat.le_refl _,fun _=>⟨by omega,.inl ⟨rfl,by simp,a,rfl⟩⟩⟩
theorem small_need {k bytes:Nat} (hb:0<bytes) (h:k*bytes≤140737488355328):k≤140737488355328:=Nat.le_trans (Nat.le_mul_of_pos_right _ hb) h
theorem cut_grownCap_ge (w:World) (need old:Nat) (e:TypeId) (h:(need:Int)≤140737488355328):need≤grownCap w need old e:=by
 unfold grownCap
 simp only [Question.cut]
 omega
theorem append_new (h:HRel β hp S w Wr) (hf:∀ b,w.heap.size≤b→Wr b) {t ty e:TypeId} {ie:TypeInfo} {z:Value} (ht:P.underlying t=some (.slice e)) (hie:P.info? e=some ie) (hz:ie.zero=some z) (hzs:z.cells.size=ie.size)
  (hsz:0<ie.size) (hby:0<ie.bytes) {x:C} {ub:Value} {m:Nat} {new:List C} (hsl:slOf hp ie.size x=some (m,new)) (hrx:RelC β hp S w x ub) (hl:new.length=m*ie.size) (hbytes:m*ie.bytes≤140737488355328) (a:Option Addr):
  ∃ v w' β',(Builtin.append_ #[t,t] ty #[.slice a 0 0,ub]).run P w=.ok v w'∧RelC β' (hp++ [.cells ie.size 1 new false]) S w' (.ar hp.length 1 0 m) v∧HRel β' (hp++ [.cells ie.size 1 new false]) S w' Wr∧
   Ext β hp S β' (hp++ [.cells ie.size 1 new false]) S∧Evo Wr S w w':=by
 have hm:=small_need hby hbytes
 obtain ⟨us,gp,g1,g2,g3⟩:=run_firstCells (P:=P) h hsl hrx hl
 have hus:us.length=m*ie.size:=by rw [g2.length,hl]
 rcases Nat.eq_zero_or_pos m with rfl | hm0
 ·have hnew:new= []:=List.eq_nil_of_length_eq_zero (by omega)
  have hus0:us= []:=List.eq_nil_of_length_eq_zero (by omega)
  subst hnew; subst hus0
  exact ⟨.slice a 0 0,w,_,run_append_same_gen ht hie a _ g1 (g3 w rfl),relAr_nil a,h.allocNil ie.size 1 false hsz,ext_push _ _ _ _ _,Evo.refl _ _ _⟩
 ·have hrun:=run_append_grow_gen (P:=P) (w:=w) (ty:=ty) ht hie hz a 0 0 m ub [] us g1 (g3 w.drew rfl) (by cases a<;>simp [Builtin.firstCells,loadCells,loadCellsFrom]) (by omega) (by omega)
   (by simp only [Nat.zero_add]; exact growslice_fits hm0 hbytes)
  simp only [List.nil_append,Nat.zero_add] at hrun
  have hcap:m≤grownCap w m 0 e:=cut_grownCap_ge w m 0 e (by omega)
  have ha:=(h.drew).alloc (hf w.heap.size (Nat.le_refl _)) (RelL.step (Ext.refl _ _ _) (Evo.drew (Wr:=Wr) w) _ _ g2) (Builtin.zeroCells z.cells (grownCap w m 0 e - m)).toList e ie.size 1 false hsz (fun _=>gp)
  refine ⟨_,_,_,hrun,?_,ha,ext_push _ _ _ _ _,(Evo.drew (Wr:=Wr) (S:=S) w).trans (Evo.alloc w.drew _ h.imm) (fun _ _ hs=>hs)⟩
  refine relAr_new (b:=w.heap.size) (heap_alloc_new w.drew _) hcap (by omega) ?_ (by rw [hl]; exact Nat.mul_le_mul_right _ hcap)
  simp only [List.size_toArray,List.length_append,Array.length_toList,size_zeroCells,hzs,hus,← Nat.add_mul]
  rw [Nat.add_sub_cancel' hcap]
  exact Nat.le_refl _
theorem relAr_bump {id sz ver n cap b o:Nat} {cs:List C} {fz:Bool} {w1:World} {arr:Array Value} {e:TypeId} (hid:id<hp.length) (hb:w1.heap[b]? =some (.cells arr e (0,0))) (hn:n≤cap) (hlen:n*sz≤cs.length) (hcap:o+cap*sz≤arr.size) (hroom:cs.length≤cap*sz):
  RelC (upd β id (some (b,o))) (hp.set id (.cells sz ver cs fz)) S w1 (.ar id ver 0 n) (.slice (some ⟨b,o,none⟩) n cap):=by
 simp only [RelC,RelP]
 refine ⟨⟨_,_,_,rfl⟩,by simpa using hid,fun sz' ver' cs' fz' hH=> ?_⟩
 simp only [List.getElem?_set,hid,if_true,Option.some.injEq,Ob.cells.injEq] at hH
 obtain ⟨rfl,rfl,rfl,rfl⟩:=hH
 exact ⟨Nat.le_refl _,fun _=>⟨by omega,.inr ⟨b,o,cap,e,arr,(0,0),upd_same _ _ _,rfl,hn,hb,by omega,by omega⟩⟩⟩
theorem append_on (h:HRel β hp S w Wr) (hf:∀ b,w.heap.size≤b→Wr b) {t ty e:TypeId} {ie:TypeInfo} {z:Value} (ht:P.underlying t=some (.slice e)) (hie:P.info? e=some ie) (hz:ie.zero=some z) (hzs:z.cells.size=ie.size)
  (hsz:0<ie.size) (hby:0<ie.bytes) {x:C} {ua ub:Value} {m id ver off n:Nat} {new cs:List C} {fz:Bool} (hsl:slOf hp ie.size x=some (m,new)) (hrx:RelC β hp S w x ub) (hrs:RelC β hp S w (.ar id ver off n) ua)
  (hid:hp[id]? =some (.cells ie.size ver cs fz)) (hl:new.length=m*ie.size) (hend:fz=true→off+n*ie.size=cs.length) (hv0:ver≠0) (hbytes:(n+m)*ie.bytes≤140737488355328) (q:Nat):
  ∃ v w' β',(Builtin.append_ #[t,t] ty #[ua,ub]).run P w=.ok v w'∧RelC β' (hp.set id (.cells ie.size (ver+1) (appCells cs off (n*ie.size) new q) fz)) S w' (.ar id (ver+1) 0 (n+m)) v∧
   HRel β' (hp.set id (.cells ie.size (ver+1) (appCells cs off (n*ie.size) new q) fz)) S w' Wr∧Ext β hp S β' (hp.set id (.cells ie.size (ver+1) (appCells cs off (n*ie.size) new q) fz)) S∧Evo Wr S w w':=by
 have hm:=small_need hby hbytes
 have hlt:id<hp.length:=(List.getElem?_eq_some_iff.1 hid).1
 obtain ⟨us,gp,g1,g2,g3⟩:=run_firstCells (P:=P) h hsl hrx hl
 have hus:us.length=m*ie.size:=by rw [g2.length,hl]
 simp only [RelC,RelP] at hrs
 obtain ⟨_,_,hs⟩:=hrs
 obtain ⟨_,hs⟩:=hs _ ver cs fz hid
 obtain ⟨hle0,hs⟩:=hs rfl
 have hnm:(n+m)*ie.size=n*ie.size+m*ie.size:=Nat.add_mul _ _ _
 have hcs':(n+m)*ie.size≤(appCells cs off (n*ie.size) new q).length∧(appCells cs off (n*ie.size) new q).length≤max ((n+m)*ie.size) (cs.length - off):=by
  simp only [appCells,List.length_append,List.length_take,List.length_drop,hl]; omega
 obtain ⟨⟨_,hpl⟩,hcells⟩:=h.cells id _ ver cs fz hid
 have hplain:∀ c∈appCells cs off (n*ie.size) new q,plain c=true:=fun c hc=>by
  rcases List.mem_append.1 hc with hc | hc
  ·exact hpl hv0 c (List.mem_of_mem_drop (List.mem_of_mem_take hc))
  ·rcases List.mem_append.1 hc with hc | hc
   ·exact gp c hc
   ·exact hpl hv0 c (List.mem_of_mem_drop (List.mem_of_mem_take hc))
 have hbl:∀ i szi veri csi fzi bi oi,hp[i]? =some (.cells szi veri csi fzi)→β i=some (bi,oi)→bi<w.heap.size:=fun i szi veri csi fzi bi oi hi hb=>h.block_lt hi hb
 rcases hs with ⟨rfl,hnone,a,rfl⟩ | ⟨b,oo,cap,e',arr,fr,hb,rfl,hcap,hbk,hroom,hcov⟩
 ·
  have hcs:appCells cs off (0*ie.size) new q=new:=by
   simp only [appCells,Nat.zero_mul,List.take_zero,List.nil_append,Nat.add_zero]
   rw [List.drop_eq_nil_of_le (by omega),List.take_nil,List.append_nil]
  rw [hcs] at hcs' ⊢
  simp only [Nat.zero_add] at hcs' ⊢
  rcases Nat.eq_zero_or_pos m with rfl | hm0
  ·have hnew:new= []:=List.eq_nil_of_length_eq_zero (by omega)
   have hus0:us= []:=List.eq_nil_of_length_eq_zero (by omega)
   subst hnew; subst hus0
   have hx:=ext_bump β hp S (cs':= []) (fz':=fz) none hid
   refine ⟨.slice a 0 0,w,_,run_append_same_gen ht hie a _ g1 (g3 w rfl),?_,h.put (Evo.refl _ _ _) hlt hx ⟨hsz,fun _=>by first | exact hplain | exact gp | (intro c hc; simp at hc)⟩ (fun i szi veri csi fzi bi oi hne hi hb=>⟨rfl,fun b o hh=>by cases hh⟩) (.inl ⟨rfl,rfl⟩) (fun _ _ _ _ _=>rfl),hx,Evo.refl _ _ _⟩
   simp only [RelC,RelP]
   refine ⟨⟨_,_,_,rfl⟩,by simpa using hlt,fun sz' ver' cs' fz' hH=> ?_⟩
   simp only [List.getElem?_set,hlt,if_true,Option.some.injEq,Ob.cells.injEq] at hH
   obtain ⟨rfl,rfl,rfl,rfl⟩:=hH
   exact ⟨Nat.le_refl _,fun _=>⟨by simp,.inl ⟨rfl,by simp,a,rfl⟩⟩⟩
  ·have hrun:=run_append_grow_gen (P:=P) (w:=w) (ty:=ty) ht hie hz a 0 0 m ub [] us g1 (g3 w.drew rfl) (by cases a<;>simp [Builtin.firstCells,loadCells,loadCellsFrom]) (by omega) (by omega)
    (by simp only [Nat.zero_add] at hbytes ⊢; exact growslice_fits hm0 hbytes)
   simp only [List.nil_append,Nat.zero_add] at hrun
   have hcap:m≤grownCap w m 0 e:=cut_grownCap_ge w m 0 e (by omega)
   have hx:=ext_bump β hp S (cs':=new) (fz':=fz) (some (w.heap.size,0)) hid
   have hv:Evo Wr S w (w.drew.alloc (.cells (us++(Builtin.zeroCells z.cells (grownCap w m 0 e - m)).toList).toArray e)):=(Evo.drew (Wr:=Wr) (S:=S) w).trans (Evo.alloc w.drew _ h.imm) (fun _ _ hs=>hs)
   have hsize:grownCap w m 0 e*ie.size≤(us++(Builtin.zeroCells z.cells (grownCap w m 0 e - m)).toList).toArray.size:=by
    simp only [List.size_toArray,List.length_append,Array.length_toList,size_zeroCells,hzs,hus,← Nat.add_mul]
    rw [Nat.add_sub_cancel' hcap]
    exact Nat.le_refl _
   have hle:m*ie.size≤grownCap w m 0 e*ie.size:=Nat.mul_le_mul_right _ hcap
   refine ⟨_,_,_,hrun,relAr_bump (b:=w.heap.size) (o:=0) hlt (heap_alloc_new w.drew _) hcap (by omega) (by omega) (by omega),?_,hx,hv⟩
   refine h.put hv hlt hx ⟨hsz,fun _=>by first | exact hplain | exact gp | (intro c hc; simp at hc)⟩ (fun i szi veri csi fzi bi oi hne hi hb=>⟨RowKit.Below.heap_alloc w.drew _ _ (hbl i _ _ _ _ bi oi hi hb),fun b o hh=>by
    have:=hbl i _ _ _ _ bi oi hi hb; injection hh with hh; injection hh with hh _; omega⟩)
    (.inr ⟨w.heap.size,0,_,e,rfl,heap_alloc_new w.drew _,hf _ (Nat.le_refl _),by omega,fun j c hc=> ?_,fun k hs=>absurd (h.imm _ _ hs) (by omega)⟩) (fun i es bi hi hb=>RowKit.Below.heap_alloc w.drew _ _ (h.map_lt hi hb))
   obtain ⟨u,m1,m2⟩:=g2.get j c hc
   have hj:j<us.length:=(List.getElem?_eq_some_iff.1 m1).1
   refine ⟨u,?_,m2⟩
   have hh:=heap_alloc_new w.drew (.cells (us++(Builtin.zeroCells z.cells (grownCap w m 0 e - m)).toList).toArray e)
   have hh2:(w.drew.alloc (.cells (us++(Builtin.zeroCells z.cells (grownCap w m 0 e - m)).toList).toArray e)).heap[w.heap.size]? =some (.cells (us++(Builtin.zeroCells z.cells (grownCap w m 0 e - m)).toList).toArray e (0,0)):=hh
   simp only [World.cell?,hh2,Nat.zero_add,Option.isSome_none,Bool.false_eq_true,if_false]
   simp only [List.getElem?_toArray]
   rw [List.getElem?_append_left hj]
   exact m1
 ·rcases hcells with hc | ⟨b',o',arr',e'',k1,k2,k3,k4,k5,k6⟩
  ·rw [hc.1] at hb; cases hb
  rw [hb] at k1
  simp only [Option.some.injEq,Prod.mk.injEq] at k1
  obtain ⟨rfl,rfl⟩:=k1
  rw [hbk] at k2
  simp only [Option.some.injEq,Obj.cells.injEq] at k2
  obtain ⟨rfl,rfl,rfl⟩:=k2
  have hl0:Lies β hp S w cs b oo:=k5
  rcases Nat.lt_or_ge cap (n+m) with hgt | hle
  ·
   obtain ⟨olds,o1,o2⟩:=((hl0.drop off).take (n*ie.size)).values
   have hol:olds.length=n*ie.size:=by rw [o1.length,List.length_take,List.length_drop]; omega
   have hcapm:cap*ie.size≤(n+m)*ie.size:=Nat.mul_le_mul_right _ (by omega)
   have hall0:appCells cs off (n*ie.size) new q=(cs.drop off).take (n*ie.size)++new:=by
    simp only [appCells]
    rw [List.drop_eq_nil_of_le (as:=cs) (i:=off+n*ie.size+new.length) (by omega),List.take_nil,List.append_nil]
   have hrun:=run_append_grow_gen (P:=P) (w:=w) (ty:=ty) ht hie hz (some ⟨b,oo+off,none⟩) n cap m ub olds us g1 (g3 w.drew rfl)
    (run_firstCells_some (P:=P) w.drew ie.size n ⟨b,oo+off,none⟩ n cap olds hol (fun j v hv=>by rw [Addr.add_mid]; exact o2 j v hv)) hgt (by omega) (growslice_fits hgt hbytes)
   have hcap':n+m≤grownCap w (n+m) cap e:=cut_grownCap_ge w (n+m) cap e (by omega)
   have hx:=ext_bump β hp S (cs':=appCells cs off (n*ie.size) new q) (fz':=fz) (some (w.heap.size,0)) hid
   have hv:Evo Wr S w (w.drew.alloc (.cells ((olds++us)++(Builtin.zeroCells z.cells (grownCap w (n+m) cap e - (n+m))).toList).toArray e)):=(Evo.drew (Wr:=Wr) (S:=S) w).trans (Evo.alloc w.drew _ h.imm) (fun _ _ hs=>hs)
   have hsize:grownCap w (n+m) cap e*ie.size≤((olds++us)++(Builtin.zeroCells z.cells (grownCap w (n+m) cap e - (n+m))).toList).toArray.size:=by
    simp only [List.size_toArray,List.length_append,Array.length_toList,size_zeroCells,hzs,hus,hol,← Nat.add_mul]
    rw [Nat.add_sub_cancel' hcap']
    exact Nat.le_refl _
   have hle2:(n+m)*ie.size≤grownCap w (n+m) cap e*ie.size:=Nat.mul_le_mul_right _ hcap'
   have hall:RelL β hp S w (appCells cs off (n*ie.size) new q) (olds++us):=by rw [hall0]; exact o1.append g2
   refine ⟨_,_,_,hrun,relAr_bump (b:=w.heap.size) (o:=0) hlt (heap_alloc_new w.drew _) hcap' (by omega) (by omega) (by omega),?_,hx,hv⟩
   refine h.put hv hlt hx ⟨hsz,fun _=>by first | exact hplain | exact gp | (intro c hc; simp at hc)⟩ (fun i szi veri csi fzi bi oi hne hi hb=>⟨RowKit.Below.heap_alloc w.drew _ _ (hbl i _ _ _ _ bi oi hi hb),fun b o hh=>by
    have:=hbl i _ _ _ _ bi oi hi hb; injection hh with hh; injection hh with hh _; omega⟩)
    (.inr ⟨w.heap.size,0,_,e,rfl,heap_alloc_new w.drew _,hf _ (Nat.le_refl _),by omega,fun j c hc=> ?_,fun k hs=>absurd (h.imm _ _ hs) (by omega)⟩) (fun i es bi hi hb=>RowKit.Below.heap_alloc w.drew _ _ (h.map_lt hi hb))
   obtain ⟨u,m1,m2⟩:=hall.get j c hc
   have hj:j<(olds++us).length:=(List.getElem?_eq_some_iff.1 m1).1
   refine ⟨u,?_,m2⟩
   have hh2:(w.drew.alloc (.cells ((olds++us)++(Builtin.zeroCells z.cells (grownCap w (n+m) cap e - (n+m))).toList).toArray e)).heap[w.heap.size]? =some (.cells ((olds++us)++(Builtin.zeroCells z.cells (grownCap w (n+m) cap e - (n+m))).toList).toArray e (0,0)):=heap_alloc_new w.drew _
   simp only [World.cell?,hh2,Nat.zero_add,Option.isSome_none,Bool.false_eq_true,if_false]
   simp only [List.getElem?_toArray]
   rw [List.getElem?_append_left hj]
   exact m1
  ·
   have hcell:∀ j,j<arr.size→(w.cell? ⟨b,j,none⟩).isSome=true:=fun j hj=>by simp [World.cell?,hbk,hj]
   have hcapm:(n+m)*ie.size≤cap*ie.size:=Nat.mul_le_mul_right _ hle
   have hrun:=run_append_room_gen (P:=P) (w:=w) (ty:=ty) ht hie b (oo+off) n cap m ub us g1 (g3 w rfl) g2.all hle (fun j hj=>hcell _ (by omega)) (fun j hj=>by simp [World.frozen?,hbk])
   have hx:=ext_bump β hp S (cs':=appCells cs off (n*ie.size) new q) (fz':=fz) (some (b,oo+off)) hid
   have hv:Evo Wr S w (w.setCells b (oo+off+n*ie.size) us):=Evo.setCells w k3 (fun k hs=>by
    have h6:=k6 k hs
    cases fz
    ·simp at h6; omega
    ·have:=hend rfl
     simp at h6; omega)
   obtain ⟨arr2,a1,a2⟩:=heap_setCells_same b us (oo+off+n*ie.size) w arr e' (0,0) hbk
   refine ⟨_,_,_,hrun,relAr_bump (b:=b) (o:=oo+off) hlt a1 hle (by omega) (by omega) (by omega),?_,hx,hv⟩
   refine h.put hv hlt hx ⟨hsz,fun _=>by first | exact hplain | exact gp | (intro c hc; simp at hc)⟩ (fun i szi veri csi fzi bi oi hne hi hbi=> ?_) (.inr ⟨b,oo+off,arr2,e',rfl,a1,k3,by omega,fun j c hc=> ?_,fun k hs=> ?_⟩) (fun i es bi hi hbi=>heap_setCells_other b bi (fun ee=>by
    obtain ⟨b2,arr3,clock,n1,n2,_⟩:=h.maps i es hi
    rw [n1] at hbi; injection hbi with hbi; injection hbi with hbi _
    rw [← ee,← hbi,n2] at hbk; cases hbk) us _ w)
   ·have hbn:bi≠b:=fun ee=>hne (h.inj i id _ _ _ _ _ _ _ _ b oi oo hi hid (ee ▸ hbi) hb)
    exact ⟨heap_setCells_other b bi hbn us _ w,fun b2 o2 hh=>by injection hh with hh; injection hh with hh _; rw [← hh]; exact hbn⟩
   ·have hat:∀ j',oo+off+n*ie.size≤j'→j'<oo+off+(n+m)*ie.size→∀ c,new[j' - (oo+off+n*ie.size)]? =some c→∃ u,(w.setCells b (oo+off+n*ie.size) us).cell? ⟨b,j',none⟩=some u∧RelC β hp S w c u:=fun j' h1 h2 c hc=>by
     obtain ⟨u,m1,m2⟩:=g2.get _ c hc
     have hjl:j' - (oo+off+n*ie.size)<us.length:=(List.getElem?_eq_some_iff.1 m1).1
     refine ⟨u,?_,m2⟩
     have:=World.cell?_setCells_in b us (oo+off+n*ie.size) w (fun i hi=>hcell _ (by omega)) (j' - (oo+off+n*ie.size)) hjl
     rw [show oo+off+n*ie.size+(j' - (oo+off+n*ie.size))=j' by omega] at this
     rw [this]
     rw [List.getElem?_eq_getElem hjl] at m1
     exact m1
    have hold:∀ j' c,j'<oo+off+n*ie.size∨oo+off+(n+m)*ie.size≤j'→oo≤j'→cs[j' - oo]? =some c→∃ u,(w.setCells b (oo+off+n*ie.size) us).cell? ⟨b,j',none⟩=some u∧RelC β hp S w c u:=fun j' c h1 h2 hc=>by
     obtain ⟨u,m1,m2⟩:=k5 (j' - oo) c hc
     rw [show oo+(j' - oo)=j' by omega] at m1
     refine ⟨u,?_,m2⟩
     rw [World.cell?_setCells_out b us (oo+off+n*ie.size) w _ (fun _ _=>by simp only; omega)]
     exact m1
    simp only [appCells] at hc
    rw [List.getElem?_append] at hc
    split at hc
    ·rename_i hj
     rw [List.length_take,List.length_drop] at hj
     rw [List.getElem?_take_of_lt (by omega),List.getElem?_drop] at hc
     exact hold _ c (.inl (by omega)) (by omega) (by rw [show oo+off+j - oo=off+j by omega]; exact hc)
    ·rename_i hj
     rw [List.length_take,List.length_drop] at hj hc
     rw [List.getElem?_append] at hc
     split at hc
     ·exact hat _ (by omega) (by omega) c (by rw [show oo+off+j - (oo+off+n*ie.size)=j - min (n*ie.size) (cs.length - off) by omega]; exact hc)
     ·rw [List.getElem?_take] at hc
      split at hc
      case isFalse=>cases hc
      rw [List.getElem?_drop] at hc
      exact hold _ c (.inr (by omega)) (by omega) (by rw [show oo+off+j - oo=off+n*ie.size+new.length+(j - min (n*ie.size) (cs.length - off) - new.length) by omega]; exact hc)
   ·have:=k6 k hs
    cases fz
    ·simp at this ⊢; omega
    ·have:=hend rfl
     simp only [if_true] at*; omega
theorem op_append (h:HRel β hp S w Wr) (hf:∀ b,w.heap.size≤b→Wr b) (hρ:∀ x,RelD β hp S w (ρ x) (ρv x)) {c:Call} (ho:o.op=.call c) (hc:c.callee=.builtin .append) (hop:opx P o ρ hp os=some (d,hp',os',ps)) (hps:∀ p∈ps,p):OpRun P Wr S β hp w ρv o d hp':=by
 unfold opx at hop
 rw [ho] at hop
 simp only [hc] at hop
 split at hop
 ·rename_i s x t t' hargs hts
  split at hop
  ·rename_i htt
   subst htt
   split at hop
   ·rename_i e ht
    split at hop
    ·rename_i ie hie
     split at hop
     ·rename_i hcond
      obtain ⟨hsz,hby,hzs⟩:=hcond
      obtain ⟨z,hz,hzs⟩:=Option.map_eq_some_iff.1 hzs
      obtain ⟨oa,ob,hab,hs,hx⟩:=map_two hargs
      have hrs:RelC β hp S w s (ρv oa):=rel_one (hρ oa) hs
      have hrx:RelC β hp S w x (ρv ob):=rel_one (hρ ob) hx
      have hexec:∀ v w',(Builtin.append_ #[t,t] o.type #[ρv oa,ρv ob]).run P w=.ok v w'→(execOp ρv o).run P w=.ok (.value v) w':=fun v w' hr=>by
       simp [execOp,ho,resolve,hc,toList_two hab,toList_two hts,invoke,builtin,hr]
      split at hop
      ·rename_i m new hsl
       split at hop
       ·simp only [Option.some.injEq,Prod.mk.injEq] at hop
        obtain ⟨rfl,rfl,rfl,rfl⟩:=hop
        simp only [RelC,RelP] at hrs
        obtain ⟨v,w',β',q1,q2,q3,q4,q5⟩:=append_new (P:=P) (ty:=o.type) h hf ht hie hz hzs hsz hby hsl hrx (hps _ (by simp)) (hps _ (by simp)) none
        exact ⟨.value v,v,w',β',hexec _ _ (by rw [hrs.1]; exact q1),.inl rfl,q2,q3,q4,q5⟩
       ·rename_i id ver off n
        split at hop
        ·rename_i sz ver' cs fz q _ hid
         split at hop
         ·rename_i hvs
          obtain ⟨rfl,rfl,hv0⟩:=hvs
          simp only [Option.some.injEq,Prod.mk.injEq] at hop
          obtain ⟨rfl,rfl,rfl,rfl⟩:=hop
          obtain ⟨v,w',β',q1,q2,q3,q4,q5⟩:=append_on (P:=P) (ty:=o.type) h hf ht hie hz hzs hsz hby hsl hrx hrs hid (hps _ (.head _)) (hps _ (.tail _ (.head _))) hv0 (hps _ (.tail _ (.tail _ (.head _)))) q
          exact ⟨.value v,v,w',β',hexec _ _ q1,.inl rfl,q2,q3,q4,q5⟩
         ·cases hop
        ·cases hop
       ·cases hop
      ·cases hop
     ·cases hop
    ·cases hop
   ·cases hop
  ·cases hop
 ·cases hop
end
end Go.Vm

namespace Go.Vm
set_option linter.unusedVariables false
set_option linter.unusedSimpArgs false
section
variable {P:Program} {Wr:Nat→Prop} {S:Nat→Nat→Prop} {β:Nat→Option (Nat × Nat)} {H:List Ob} {hp hp':List Ob} {w w':World} {ρ:Operand→D} {ρv:Operand→Value} {o:Oper} {d:D} {os os':List Or} {ps:List Prop}
theorem foldl_size (off:Nat):∀ (vs:List Value) (i:Nat) (cells:Array Value),((vs.zipIdx i).foldl (fun (cs:Array Value) (x:Value × Nat)=>cs.setIfInBounds (off+x.2) x.1) cells).size=cells.size
 | [],i,cells=>rfl
 | v::vs,i,cells=>by
  simp only [List.zipIdx_cons,List.foldl_cons]
  rw [foldl_size off vs (i+1) _]
  simp
theorem foldl_get (off:Nat):∀ (vs:List Value) (i:Nat) (cells:Array Value) (k:Nat),((vs.zipIdx i).foldl (fun (cs:Array Value) (x:Value × Nat)=>cs.setIfInBounds (off+x.2) x.1) cells)[k]? =
  if off+i≤k∧k<off+i+vs.length∧k<cells.size then vs[k - (off+i)]? else cells[k]?
 | [],i,cells,k=>by
  simp only [List.zipIdx_nil,List.foldl_nil,List.length_nil,Nat.add_zero]
  rw [if_neg (by omega)]
 | v::vs,i,cells,k=>by
  simp only [List.zipIdx_cons,List.foldl_cons]
  rw [foldl_get off vs (i+1) _ k]
  have hset:(cells.setIfInBounds (off+i) v)[k]? =if off+i=k then (if off+i<cells.size then some v else none) else cells[k]? :=Array.getElem?_setIfInBounds
  rw [hset]
  simp only [Array.size_setIfInBounds,List.length_cons]
  by_cases h1:k=off+i
  ·subst h1
   have n1:¬ (off+(i+1)≤off+i∧off+i<off+(i+1)+vs.length∧off+i<cells.size):=by omega
   rw [if_neg n1]
   simp only [if_true]
   by_cases h2:off+i<cells.size
   ·have n2:off+i≤off+i∧off+i<off+i+(vs.length+1)∧off+i<cells.size:=by omega
    rw [if_pos n2,if_pos h2]; simp
   ·have n2:¬ (off+i≤off+i∧off+i<off+i+(vs.length+1)∧off+i<cells.size):=by omega
    rw [if_neg n2,if_neg h2,Array.getElem?_eq_none (by omega)]
  ·have n0:¬ (off+i=k):=fun e=>h1 e.symm
   simp only [n0,if_false]
   by_cases h2:off+i≤k∧k<off+i+(vs.length+1)∧k<cells.size
   ·have n2:off+(i+1)≤k∧k<off+(i+1)+vs.length∧k<cells.size:=by omega
    rw [if_pos h2,if_pos n2,show k - (off+i)=(k - (off+(i+1)))+1 by omega]; simp
   ·have n2:¬ (off+(i+1)≤k∧k<off+(i+1)+vs.length∧k<cells.size):=by omega
    rw [if_neg h2,if_neg n2]
theorem fill_sound (place:Nat→Option (Nat × Nat)):∀ (parts:List (Nat × Operand)) (cs cs':List C) (us:Array Value) (_:∀ x,RelD β hp S w (ρ x) (ρv x)),RelL β hp S w cs us.toList→
  fillC place cs (parts.map fun (i,x)=>(i,ρ x))=some cs'→∃ us',Instr.fill place us (parts.map fun (i,x)=>(i,ρv x))=some us'∧RelL β hp S w cs' us'.toList
 | [],cs,cs',us,hρ,hr,h=>by
  simp only [List.map_nil,fillC,Option.some.injEq] at h
  subst h
  exact ⟨us,rfl,hr⟩
 | (i,x)::parts,cs,cs',us,hρ,hr,h=>by
  simp only [List.map_cons] at h ⊢
  unfold fillC at h
  split at h
  ·rename_i heq; cases heq
  ·rename_i i' v rest heq
   simp only [List.cons.injEq,Prod.mk.injEq] at heq
   obtain ⟨⟨rfl,hx⟩,rfl⟩:=heq
   split at h
   ·rename_i off size hpl
    split at h
    ·rename_i hc
     obtain ⟨hsz,hle⟩:=hc
     have hv:RelV β hp S w v (ρv x):=by have:=hρ x; rw [hx] at this; exact this
     have hcl:=hv.cells
     have hul:(ρv x).cells.size=size:=by have:=hcl.length; simp at this; omega
     have hus:us.size=cs.length:=by have:=hr.length; simpa using this
     have key:RelL β hp S w (splice cs off v.cells) ((ρv x).cells.zipIdx.foldl (fun cs (c,j)=>cs.setIfInBounds (off+j) c) us).toList:=by
      have hf:(ρv x).cells.zipIdx.foldl (fun cs (c,j)=>cs.setIfInBounds (off+j) c) us=((ρv x).cells.toList.zipIdx 0).foldl (fun (cs:Array Value) (x:Value × Nat)=>cs.setIfInBounds (off+x.2) x.1) us:=by
       rw [← Array.foldl_toList]; simp
      have hget:=fun k=>foldl_get off (ρv x).cells.toList 0 us k
      rw [← hf] at hget
      refine RelL.of_get ?_ (fun j c hj=> ?_)
      ·rw [length_splice _ _ _ (by omega)]
       rw [hf,Array.length_toList,foldl_size,hus]
      ·rw [get_splice _ _ _ (by omega)] at hj
       simp only [Array.getElem?_toList,hget,Nat.add_zero]
       have hcsz:(ρv x).cells.toList.length=v.cells.length:=hcl.length
       split at hj
       ·rename_i hlt
        rw [if_neg (by omega)]
        obtain ⟨u,m1,m2⟩:=hr.get j c hj
        exact ⟨u,by simpa using m1,m2⟩
       ·split at hj
        ·rename_i h1 h2
         rw [if_pos (by omega)]
         simpa using hcl.get _ c hj
        ·rename_i h1 h2
         rw [if_neg (by omega)]
         obtain ⟨u,m1,m2⟩:=hr.get j c hj
         exact ⟨u,by simpa using m1,m2⟩
     obtain ⟨us',g1,g2⟩:=fill_sound place parts _ cs' _ hρ key h
     refine ⟨us',?_,g2⟩
     simp only [Instr.fill,hpl]
     rw [if_neg (by simp [hul]; omega)]
     exact g1
    ·cases h
   ·cases h
  ·cases h
theorem zeros_rel {z:Value} (hz:litOk z=true) (n:Nat):RelL β hp S w (zeroRow z n) (List.replicate n z.cells.toList).flatten:=by
 induction n with
 | zero=>simp [zeroRow,RelL]
 | succ n ih=>
  simp only [zeroRow,List.replicate_succ,List.flatten_cons] at ih ⊢
  exact (RelL.lit (litOk_cells hz)).append ih
theorem zeroRow_plain (z:Value) (n:Nat):∀ c∈zeroRow z n,plain c=true:=fun c hc=>by
 simp only [zeroRow,List.mem_flatten,List.mem_replicate] at hc
 obtain ⟨l,⟨_,rfl⟩,hc⟩:=hc
 obtain ⟨v,_,rfl⟩:=List.mem_map.1 hc
 rfl
theorem zeros_eq (z:Value) (n sz:Nat) (hs:z.cells.size=sz) (hp:0<sz):(Array.range (n*sz)).map (fun i=>z.cells[i % z.cells.size]!)=(List.replicate n z.cells.toList).flatten.toArray:=by
 subst hs
 apply Array.ext'
 apply List.ext_getElem?
 intro k
 induction n generalizing k with
 | zero=>simp
 | succ n ih=>
  simp only [List.replicate_succ,List.flatten_cons,List.getElem?_append,Array.length_toList]
  by_cases hk:k<z.cells.size
  ·rw [if_pos hk]
   simp only [Array.toList_map,List.getElem?_map,Array.getElem?_toList]
   rw [Array.getElem?_eq_getElem (by simp; have:=Nat.le_mul_of_pos_left z.cells.size (show 0<n+1 by omega); omega)]
   simp [Nat.mod_eq_of_lt hk,hk]
  ·rw [if_neg hk]
   have h2:=ih (k - z.cells.size)
   simp only [List.getElem?_toArray] at h2 ⊢
   rw [← h2]
   simp only [Array.toList_map,List.getElem?_map,Array.getElem?_toList]
   by_cases hb:k<(n+1)*z.cells.size
   ·have hb2:k - z.cells.size<n*z.cells.size:=by rw [Nat.add_mul] at hb; omega
    rw [Array.getElem?_eq_getElem (by simpa using hb),Array.getElem?_eq_getElem (by simpa using hb2)]
    have hm:(k - z.cells.size) % z.cells.size=k % z.cells.size:=by
     rw [Nat.mod_eq_sub_mod (a:=k) (by omega)]
    simp [hm]
   ·have hb2:¬ (k - z.cells.size<n*z.cells.size):=by rw [Nat.add_mul] at hb; omega
    rw [Array.getElem?_eq_none (by simpa using hb),Array.getElem?_eq_none (by simpa using hb2)]
theorem op_buildSlice (h:HRel β hp S w Wr) (hf:∀ b,w.heap.size≤b→Wr b) (hρ:∀ x,RelD β hp S w (ρ x) (ρv x)) {t:TypeId} {len:Nat} {parts:Array (Nat × Operand)} (ho:o.op=.buildSlice t len parts) (hop:opx P o ρ hp os=some (d,hp',os',ps)):OpRun P Wr S β hp w ρv o d hp':=by
 unfold opx at hop
 rw [ho] at hop
 simp only at hop
 split at hop
 ·rename_i e ht
  split at hop
  ·rename_i ie hie
   split at hop
   ·rename_i z hz
    split at hop
    ·rename_i hc
     obtain ⟨hl,hsz,hzs,hlen⟩:=hc
     split at hop
     case h_2=>cases hop
     rename_i cs hfill
     split at hop
     case isFalse=>cases hop
     rename_i hpl
     simp only [Option.some.injEq,Prod.mk.injEq] at hop
     obtain ⟨rfl,rfl,rfl,rfl⟩:=hop
     obtain ⟨us,g1,g2⟩:=fill_sound (ρ:=ρ) (ρv:=ρv) (fun i=>some (i*ie.size,ie.size)) parts.toList (zeroRow z len) cs (List.replicate len z.cells.toList).flatten.toArray hρ (by simpa using zeros_rel hl len) hfill
     have ha:=h.alloc (hf w.heap.size (Nat.le_refl _)) g2 [] e ie.size 1 false hsz (fun _=>plains_mem.1 hpl)
     simp only [List.append_nil,Array.toArray_toList] at ha
     have hzero:=zeros_eq z len ie.size hzs hsz
     have hcl:cs.length=len*ie.size:=by
      have h1:∀ (l:List (Nat × D)) (c0 c1:List C),fillC (fun i=>some (i*ie.size,ie.size)) c0 l=some c1→c1.length=c0.length:=by
       intro l
       induction l with
       | nil=>intro c0 c1 hh; simp [fillC] at hh; rw [hh]
       | cons y l ih=>
        intro c0 c1 hh
        unfold fillC at hh
        split at hh
        ·rename_i heq; cases heq
        ·rename_i i' v rest heq
         simp only at hh
         split at hh
         ·rename_i hcc
          have e2:l=rest:=by injection heq
          rw [← e2] at hh
          rw [ih _ _ hh,length_splice _ _ _ (by omega)]
         ·cases hh
        ·cases hh
      rw [h1 _ _ _ hfill]
      simp [zeroRow,hzs,List.length_flatten,List.map_replicate]
     have husz:us.size=len*ie.size:=by have:=g2.length; simpa [hcl] using this
     refine ⟨.value (.slice (some ⟨w.heap.size,0,none⟩) len len),_,_,_,?_,.inl rfl,relAr_new (S:=S) (heap_alloc_new w _) (Nat.le_refl _) (by rw [hcl]; exact Nat.le_refl _) (by rw [husz]; exact Nat.le_refl _) (by rw [hcl]; exact Nat.le_refl _),ha,ext_push _ _ _ _ _,Evo.alloc w _ h.imm⟩
     have hlen':¬ (len*ie.size>2 ^ 24):=by omega
     have hparts:(parts.map fun (x:Nat × Operand)=>(x.1,ρv x.2)).toList=parts.toList.map fun (i,x)=>(i,ρv x):=by simp
     by_cases h0:len*ie.size=0
     ·have hlen0:len=0:=by rcases Nat.mul_eq_zero.1 h0 with hh | hh<;>omega
      subst hlen0
      simp only [Nat.zero_mul,List.replicate_zero,List.flatten_nil] at g1
      simp only [execOp,ho,Instr.buildSlice,Sem.run_bind,run_underlying ht,Result.andThen_ok,sizeOf,typeInfo,run_program,hie,Sem.run_pure,Nat.zero_mul,if_true]
      have hr0:Array.range 0=(#[]:Array Nat):=rfl
      simp only [hr0,Array.map_empty,hparts]
      have g1':Instr.fill (fun i=>some (i*ie.size,ie.size)) #[] (List.map (fun x=>(x.fst,ρv x.snd)) parts.toList)=some us:=g1
      simp [g1',newRow]
     ·simp only [execOp,ho,Instr.buildSlice,Sem.run_bind,run_underlying ht,Result.andThen_ok,sizeOf,typeInfo,run_program,hie,Sem.run_pure]
      rw [if_neg hlen']
      simp only [Sem.run_bind,h0,if_false,zeroValue,typeInfo,run_program,hie,hz,Sem.run_pure,Result.andThen_ok,hzero,hparts,g1]
      simp [newRow]
    ·cases hop
   ·cases hop
  ·cases hop
 ·cases hop
theorem op_makeSlice (h:HRel β hp S w Wr) (hf:∀ b,w.heap.size≤b→Wr b) (hρ:∀ x,RelD β hp S w (ρ x) (ρv x)) {t:TypeId} {l c:Operand} (ho:o.op=.makeSlice t l c) (hop:opx P o ρ hp os=some (d,hp',os',ps)) (hps:∀ p∈ps,p):OpRun P Wr S β hp w ρv o d hp':=by
 unfold opx at hop
 rw [ho] at hop
 simp only at hop
 split at hop
 ·rename_i e k1 n k2 n' ht hl hc
  split at hop
  ·rename_i ie hie
   split at hop
   ·rename_i z hz
    split at hop
    ·rename_i hcond
     obtain ⟨hlz,hsz,hzs,hby⟩:=hcond
     simp only [Option.some.injEq,Prod.mk.injEq] at hop
     obtain ⟨rfl,rfl,rfl,rfl⟩:=hop
     have e1:n=n':=hps _ (.head _)
     have e2:0≤n:=hps _ (.tail _ (.head _))
     have e3:(ie.bytes:Int)*n≤281474976710656:=hps _ (.tail _ (.tail _ (.head _)))
     subst e1
     obtain ⟨m,rfl⟩:=Int.eq_ofNat_of_zero_le e2
     have e4:((ie.bytes*m:Nat):Int)≤281474976710656:=by rw [Int.natCast_mul]; exact e3
     have hb3:ie.bytes*m≤281474976710656:=by omega
     have hm:m≤281474976710656:=Nat.le_trans (Nat.le_mul_of_pos_left _ hby) hb3
     have hu1:=rel_int (hl ▸ hρ l)
     have hu2:=rel_int (hc ▸ hρ c)
     have hr:=zeros_rel (β:=β) (hp:=hp) (S:=S) (w:=w) hlz m
     have ha:=h.alloc (hf w.heap.size (Nat.le_refl _)) hr [] e ie.size 1 false hsz (fun _=>zeroRow_plain z m)
     simp only [List.append_nil] at ha
     have hlen:(List.replicate m z.cells.toList).flatten.length=m*ie.size:=by simp [List.length_flatten,List.map_replicate,hzs]
     have hlenC:(zeroRow z m).length=m*ie.size:=by rw [← hr.length,hlen]
     have hw:IntKind.i64.wrap (m:Int)=m:=IntWalk.i64_in _ (by omega)
     have hzero:=zeros_eq z m ie.size hzs hsz
     refine ⟨.value (.slice (some ⟨w.heap.size,0,none⟩) m m),_,_,_,?_,.inl rfl,relAr_new (S:=S) (heap_alloc_new w _) (Nat.le_refl _) (by rw [Int.toNat_natCast,hlenC]; exact Nat.le_refl _) (by rw [List.size_toArray,hlen]; exact Nat.le_refl _) (by rw [Int.toNat_natCast,hlenC]; exact Nat.le_refl _),ha,ext_push _ _ _ _ _,Evo.alloc w _ h.imm⟩
     have hbig:¬ (281474976710656<(ie.bytes:Int)*(m:Int)):=by omega
     by_cases h0:m=0
     ·subst h0
      have hw0:IntKind.i64.wrap 0=0:=hw
      have hr0:Array.range 0=(#[]:Array Nat):=rfl
      simp [execOp,ho,Instr.makeSlice,run_underlying ht,hu1,hu2,asInt,asIntOf,typeInfo,hie,hw0,sizeOf,newRow,hr0]
     ·have hne:¬ (m*ie.size=0):=by
       intro hh; rcases Nat.mul_eq_zero.1 hh with hh | hh<;>omega
      have hne':¬ (m=0∨ie.size=0):=by omega
      have hneg:¬ ((m:Int)<0):=by omega
      have hr2:((Array.range (m*ie.size)).map fun i=>z.cells[i % z.cells.size]!)=(List.replicate m z.cells.toList).flatten.toArray:=hzero
      simp [execOp,ho,Instr.makeSlice,run_underlying ht,hu1,hu2,asInt,asIntOf,typeInfo,hie,hw,sizeOf,newRow,hbig,hneg,hne',zeroValue,hz]
      rw [if_neg hne,hr2]
    ·cases hop
   ·cases hop
  ·cases hop
 ·cases hop
end
end Go.Vm

namespace Go.Vm
set_option linter.unusedVariables false
set_option linter.unusedSimpArgs false
section
variable {P:Program} {Wr:Nat→Prop} {S:Nat→Nat→Prop} {β:Nat→Option (Nat × Nat)} {H:List Ob} {hp hp':List Ob} {w w':World} {ρ:Operand→D} {ρv:Operand→Value} {o:Oper} {d:D} {os os':List Or} {ps:List Prop}
theorem intOf_rel {x:Operand} {n:Int} (hρ:∀ x,RelD β hp S w (ρ x) (ρv x)) (h:intOf (ρ x)=some n):∃ k,ρv x=.int k n:=by
 unfold intOf at h
 split at h
 ·rename_i k n0 hx
  simp only [Option.some.injEq] at h
  subst h
  exact ⟨k,rel_int (hx ▸ hρ x)⟩
 ·cases h
theorem run_sliceBound_in (k:IntKind) (i:Int) (y:Nat) (code:BoundsCode) (h0:0≤i) (h1:i≤y):(Instr.sliceBound (.int k i) y code).run P w=.ok i.toNat w:=by
 simp [Instr.sliceBound,asIntOf,h0,h1]
theorem bounds_sound (hρ:∀ x,RelD β hp S w (ρ x) (ρv x)) {n c cap:Nat} (hnc:n≤c) (hcap:c≤cap) {lo hi mx:Option Operand} {l h:Int} (hb:bounds n c ρ lo hi mx=some (l,h,ps)) (hps:∀ p∈ps,p) (isl:Bool) (hstr:mx=none∨True):
  0≤l∧l≤h∧h≤c∧∃ m:Nat,h≤m∧m≤cap∧(Instr.sliceBounds isl n cap (lo.map ρv) (hi.map ρv) (mx.map ρv)).run P w=.ok (l.toNat,h.toNat,m) w∧(mx=none→m=cap)∧(mx.isSome=true→∃ x z,mx=some x∧intOf (ρ x)=some z∧m=z.toNat):=by
 unfold bounds at hb
 split at hb
 ·rename_i h1 h2 h3
  simp only [Option.some.injEq,Prod.mk.injEq] at hb
  obtain ⟨rfl,rfl,rfl⟩:=hb
  simp only [Option.map_eq_none_iff] at h1 h2 h3
  subst h1; subst h2; subst h3
  exact ⟨by omega,by omega,by omega,cap,by omega,by omega,by simp [Instr.sliceBounds],fun _=>rfl,fun h=>by cases h⟩
 ·rename_i l0 h1 h2 h3
  simp only [Option.some.injEq,Prod.mk.injEq] at hb
  obtain ⟨rfl,rfl,rfl⟩:=hb
  simp only [Option.map_eq_none_iff] at h2 h3
  obtain ⟨x,rfl,hx⟩:=Option.map_eq_some_iff.1 h1
  subst h2; subst h3
  have e1:0≤l0:=hps _ (.head _)
  have e2:l0≤n:=hps _ (.tail _ (.head _))
  obtain ⟨k,hk⟩:=intOf_rel hρ hx
  refine ⟨e1,by omega,by omega,cap,by omega,by omega,?_,fun _=>rfl,fun h=>by cases h⟩
  simp [Instr.sliceBounds,hk,run_sliceBound_in k l0 n _ e1 e2]
 ·rename_i h0 h1 h2 h3
  simp only [Option.some.injEq,Prod.mk.injEq] at hb
  obtain ⟨rfl,rfl,rfl⟩:=hb
  simp only [Option.map_eq_none_iff] at h1 h3
  obtain ⟨x,rfl,hx⟩:=Option.map_eq_some_iff.1 h2
  subst h1; subst h3
  have e1:0≤h0:=hps _ (.head _)
  have e2:h0≤c:=hps _ (.tail _ (.head _))
  obtain ⟨k,hk⟩:=intOf_rel hρ hx
  refine ⟨by omega,e1,e2,cap,by omega,by omega,?_,fun _=>rfl,fun h=>by cases h⟩
  simp [Instr.sliceBounds,hk,run_sliceBound_in k h0 cap _ e1 (by omega)]
 ·rename_i l0 h0 h1 h2 h3
  simp only [Option.some.injEq,Prod.mk.injEq] at hb
  obtain ⟨rfl,rfl,rfl⟩:=hb
  simp only [Option.map_eq_none_iff] at h3
  obtain ⟨x,rfl,hx⟩:=Option.map_eq_some_iff.1 h1
  obtain ⟨y,rfl,hy⟩:=Option.map_eq_some_iff.1 h2
  subst h3
  have e1:0≤l0:=hps _ (.head _)
  have e2:l0≤h0:=hps _ (.tail _ (.head _))
  have e3:h0≤c:=hps _ (.tail _ (.tail _ (.head _)))
  obtain ⟨k,hk⟩:=intOf_rel hρ hx
  obtain ⟨k',hk'⟩:=intOf_rel hρ hy
  refine ⟨e1,e2,e3,cap,by omega,by omega,?_,fun _=>rfl,fun h=>by cases h⟩
  simp [Instr.sliceBounds,hk,hk',run_sliceBound_in k' h0 cap _ (by omega) (by omega),run_sliceBound_in k l0 h0.toNat _ e1 (by omega)]
 ·rename_i h0 m0 h1 h2 h3
  simp only [Option.some.injEq,Prod.mk.injEq] at hb
  obtain ⟨rfl,rfl,rfl⟩:=hb
  simp only [Option.map_eq_none_iff] at h1
  obtain ⟨y,rfl,hy⟩:=Option.map_eq_some_iff.1 h2
  obtain ⟨z,rfl,hz⟩:=Option.map_eq_some_iff.1 h3
  subst h1
  have e1:0≤h0:=hps _ (.head _)
  have e2:h0≤m0:=hps _ (.tail _ (.head _))
  have e3:m0≤c:=hps _ (.tail _ (.tail _ (.head _)))
  obtain ⟨k',hk'⟩:=intOf_rel hρ hy
  obtain ⟨k2,hk2⟩:=intOf_rel hρ hz
  refine ⟨by omega,e1,by omega,m0.toNat,by omega,by omega,?_,(fun hh=>by cases hh),fun _=>⟨_,_,rfl,hz,rfl⟩⟩
  simp [Instr.sliceBounds,hk',hk2,run_sliceBound_in k2 m0 cap _ (by omega) (by omega),run_sliceBound_in k' h0 m0.toNat _ (by omega) (by omega)]
 ·rename_i l0 h0 m0 h1 h2 h3
  simp only [Option.some.injEq,Prod.mk.injEq] at hb
  obtain ⟨rfl,rfl,rfl⟩:=hb
  obtain ⟨x,rfl,hx⟩:=Option.map_eq_some_iff.1 h1
  obtain ⟨y,rfl,hy⟩:=Option.map_eq_some_iff.1 h2
  obtain ⟨z,rfl,hz⟩:=Option.map_eq_some_iff.1 h3
  have e1:0≤l0:=hps _ (.head _)
  have e2:l0≤h0:=hps _ (.tail _ (.head _))
  have e3:h0≤m0:=hps _ (.tail _ (.tail _ (.head _)))
  have e4:m0≤c:=hps _ (.tail _ (.tail _ (.tail _ (.head _))))
  obtain ⟨k,hk⟩:=intOf_rel hρ hx
  obtain ⟨k',hk'⟩:=intOf_rel hρ hy
  obtain ⟨k2,hk2⟩:=intOf_rel hρ hz
  refine ⟨e1,e2,by omega,m0.toNat,by omega,by omega,?_,(fun hh=>by cases hh),fun _=>⟨_,_,rfl,hz,rfl⟩⟩
  simp [Instr.sliceBounds,hk,hk',hk2,run_sliceBound_in k2 m0 cap _ (by omega) (by omega),run_sliceBound_in k' h0 m0.toNat _ (by omega) (by omega),run_sliceBound_in k l0 h0.toNat _ (by omega) (by omega)]
 ·cases hb
theorem op_slice (h:HRel β hp S w Wr) (hρ:∀ x,RelD β hp S w (ρ x) (ρv x)) {t:TypeId} {x:Operand} {lo hi mx:Option Operand} (ho:o.op=.slice t x lo hi mx) (hop:opx P o ρ hp os=some (d,hp',os',ps)) (hps:∀ p∈ps,p):OpRun P Wr S β hp w ρv o d hp':=by
 unfold opx at hop
 rw [ho] at hop
 simp only at hop
 split at hop
 ·rename_i e c ht hx
  have hrc:RelC β hp S w c (ρv x):=rel_one (hρ x) hx
  split at hop
  ·rename_i ie hie
   have hexec:∀ (a:Option Addr) (n cap l hh m:Nat),ρv x=.slice a n cap→(Instr.sliceBounds true n cap (lo.map ρv) (hi.map ρv) (mx.map ρv)).run P w=.ok (l,hh,m) w→
     (execOp ρv o).run P w=.ok (.value (.slice (if m=l then a else a.map (·.add (l*ie.size))) (hh - l) (m - l))) w:=fun a n cap l hh m hu hb=>by
    simp [execOp,ho,Instr.sliceAt,Instr.slice,run_underlying ht,hu,hb,sizeOf,typeInfo,hie]
   split at hop
   ·rename_i hsz
    split at hop
    ·
     rename_i hnr
     split at hop
     ·rename_i nc hsl
      simp only [Option.some.injEq,Prod.mk.injEq] at hop
      obtain ⟨rfl,rfl,rfl,rfl⟩:=hop
      obtain ⟨n,cs⟩:=nc
      obtain ⟨a,cap,hu,_⟩:=slOf_sound h hsl hrc
      unfold noRoom at hnr
      split at hnr
      ·rename_i k1 k2 h2 h3
       obtain ⟨y,rfl,hy⟩:=Option.map_eq_some_iff.1 h2
       obtain ⟨z,rfl,hz⟩:=Option.map_eq_some_iff.1 h3
       have hk1:=rel_int (hy ▸ hρ y)
       have hk2:=rel_int (hz ▸ hρ z)
       have hb:(Instr.sliceBounds true n cap (Option.map ρv (none:Option Operand)) ((some y).map ρv) ((some z).map ρv)).run P w=.ok (0,0,0) w:=by
        simp [Instr.sliceBounds,hk1,hk2,run_sliceBound_in _ 0 cap _ (by omega) (by omega),run_sliceBound_in _ 0 0 _ (by omega) (by omega)]
       have hr:=hexec a n cap 0 0 0 hu hb
       simp only [if_true,Nat.sub_self] at hr
       exact ⟨.value (.slice a 0 0),_,w,_,hr,.inl rfl,relAr_nil (S:=S) a,h.allocNil ie.size 1 false hsz,ext_push _ _ _ _ _,Evo.refl _ _ _⟩
      ·cases hnr
     ·cases hop
    ·split at hop
     ·rename_i n cs
      split at hop
      ·rename_i l hh ps0 hb
       simp only [Option.some.injEq,Prod.mk.injEq] at hop
       obtain ⟨rfl,rfl,rfl,rfl⟩:=hop
       simp only [RelC,RelP] at hrc
       obtain ⟨a,cap,hu,hcap,hnone,h3⟩:=hrc
       obtain ⟨e1,e2,e3,m,e4,e5,hrun,_⟩:=bounds_sound (P:=P) hρ (Nat.le_refl n) hcap hb hps true (.inr trivial)
       have hr:=hexec a n cap l.toNat hh.toNat m hu hrun
       refine OpRun.value h hr ?_
       show RelC _ _ _ _ _ _
       simp only [RelC,RelP]
       refine ⟨_,_,by rw [show (hh - l).toNat=hh.toNat - l.toNat by omega],by omega,(fun h=>by split at h<;>(first | (have:=hnone h; omega) | (have:=hnone (by simpa using h); omega))),?_⟩
       rcases h3 with ⟨hn,hcs⟩ | ⟨b,oo,ha,hat⟩
       ·exact .inl ⟨by omega,by rw [hcs]; simp⟩
       ·by_cases h0:hh.toNat - l.toNat=0
        ·exact .inl ⟨by omega,by rw [show (hh - l).toNat=0 by omega]; simp⟩
        ·have hml:m≠l.toNat:=by omega
         refine .inr ⟨b,oo+l.toNat*ie.size,by rw [if_neg hml,ha]; simp [Addr.add_mid],?_⟩
         obtain ⟨g1,g2⟩:=hat.liesP
         refine RelAt.of_liesP ((g1.drop _).take _) (fun j hj=> ?_)
         rw [List.length_take,List.length_drop] at hj
         have:=g2 (l.toNat*ie.size+j) (by omega)
         rwa [show oo+(l.toNat*ie.size+j)=oo+l.toNat*ie.size+j by omega] at this
      ·cases hop
     ·rename_i id ver off n
      split at hop
      rotate_left
      ·cases hop
      rename_i sz ver' cs fz hid
      split at hop
      ·rename_i l hh ps0 hb
       split at hop
       ·rename_i hvs
        obtain ⟨rfl,rfl⟩:=hvs
        simp only [Option.some.injEq,Prod.mk.injEq] at hop
        obtain ⟨rfl,rfl,rfl,rfl⟩:=hop
        have hps0:∀ p∈ps0,p:=fun p hp=>hps p (List.mem_append_left _ hp)
        have hmx:∀ x m,mx=some x→intOf (ρ x)=some m→cs.length≤off+m.toNat*ie.size:=hps _ (List.mem_append_right _ (.head _))
        have hrc':=hrc
        simp only [RelC,RelP] at hrc'
        obtain ⟨_,hlt,hs⟩:=hrc'
        obtain ⟨_,hs⟩:=hs _ ver cs fz hid
        obtain ⟨hlen,hs⟩:=hs rfl
        have hcc:(cs.length - off) / ie.size*ie.size≤cs.length - off:=Nat.div_mul_le_self _ _
        have hnc:n≤(cs.length - off) / ie.size:=(Nat.le_div_iff_mul_le hsz).2 (by omega)
        have hpos:∀ l0 n0:Nat,l0+n0≤(cs.length - off) / ie.size→off+l0*ie.size+n0*ie.size≤cs.length:=fun l0 n0 hln=>by
         have:(l0+n0)*ie.size≤(cs.length - off) / ie.size*ie.size:=Nat.mul_le_mul_right _ hln
         rw [Nat.add_mul] at this; omega
        rcases hs with ⟨hn,hnone,a,hu⟩ | ⟨b,oo,cap,e',arr,fr,hβ,hu,hcap,hbk,hroom,hcov⟩
        ·subst hn
         have hc0:(cs.length - off) / ie.size=0:=by rw [Nat.sub_eq_zero_of_le hnone]; simp
         rw [hc0] at hb
         obtain ⟨e1,e2,e3,m,e4,e5,hrun,_⟩:=bounds_sound (P:=P) hρ (Nat.le_refl 0) (Nat.le_refl 0) hb hps0 true (.inr trivial)
         have hr:=hexec a 0 0 l.toNat hh.toNat m hu hrun
         have hl0:l=0:=by omega
         have hh0:hh=0:=by omega
         have hm0:m=0:=by omega
         subst hl0; subst hh0; subst hm0
         simp only [Int.toNat_zero,if_true,Nat.sub_self] at hr
         refine OpRun.value h hr ?_
         show RelC _ _ _ _ _ _
         simp only [RelC,RelP]
         refine ⟨⟨_,_,_,rfl⟩,hlt,fun sz2 ver2 cs2 fz2 hid2=> ?_⟩
         rw [hid] at hid2
         simp only [Option.some.injEq,Ob.cells.injEq] at hid2
         obtain ⟨rfl,rfl,rfl,rfl⟩:=hid2
         exact ⟨Nat.le_refl _,fun _=>⟨by simpa using hlen,.inl ⟨by simp,by omega,a,rfl⟩⟩⟩
        ·have hccap:(cs.length - off) / ie.size≤cap:=Nat.div_le_of_le_mul (by rw [Nat.mul_comm]; omega)
         obtain ⟨e1,e2,e3,m,e4,e5,hrun,hm1,hm2⟩:=bounds_sound (P:=P) hρ hnc hccap hb hps0 true (.inr trivial)
         have hcov':cs.length≤off+m*ie.size:=by
          cases hmm:mx with
          | none=>rw [hm1 hmm]; exact hcov
          | some x=>
           obtain ⟨x',z,k1,k2,k3⟩:=hm2 (by rw [hmm]; rfl)
           rw [k3]; exact hmx x' z k1 k2
         have hr:=hexec _ n cap l.toNat hh.toNat m hu hrun
         refine OpRun.value h hr ?_
         show RelC _ _ _ _ _ _
         simp only [RelC,RelP]
         refine ⟨⟨_,_,_,rfl⟩,hlt,fun sz2 ver2 cs2 fz2 hid2=> ?_⟩
         rw [hid] at hid2
         simp only [Option.some.injEq,Ob.cells.injEq] at hid2
         obtain ⟨rfl,rfl,rfl,rfl⟩:=hid2
         have hlenh:=hpos l.toNat (hh - l).toNat (by omega)
         by_cases hml:m=l.toNat
         ·exact ⟨Nat.le_refl _,fun _=>⟨hlenh,.inl ⟨by omega,by rw [hml] at hcov'; exact hcov',_,by rw [show hh.toNat - l.toNat=0 by omega,show m - l.toNat=0 by omega]⟩⟩⟩
         refine ⟨Nat.le_refl _,fun _=>⟨hlenh,.inr ⟨b,oo,m - l.toNat,e',arr,fr,hβ,?_,by omega,hbk,?_,?_⟩⟩⟩
         ·rw [if_neg hml,show (hh - l).toNat=hh.toNat - l.toNat by omega]; simp [Addr.add_mid,Nat.add_assoc]
         ·have:m*ie.size≤cap*ie.size:=Nat.mul_le_mul_right _ e5
          have h2:(m - l.toNat)*ie.size=m*ie.size - l.toNat*ie.size:=Nat.sub_mul _ _ _
          have h3:l.toNat*ie.size≤m*ie.size:=Nat.mul_le_mul_right _ (by omega)
          omega
         ·have h2:(m - l.toNat)*ie.size=m*ie.size - l.toNat*ie.size:=Nat.sub_mul _ _ _
          have h3:l.toNat*ie.size≤m*ie.size:=Nat.mul_le_mul_right _ (by omega)
          omega
       ·cases hop
      ·cases hop
     ·cases hop
   ·cases hop
  ·cases hop
 ·rename_i s ht hx
  split at hop
  ·rename_i l hh ps0 hb
   simp only [Option.some.injEq,Prod.mk.injEq] at hop
   obtain ⟨rfl,rfl,rfl,rfl⟩:=hop
   have hu:=rel_sc (hx ▸ hρ x)
   obtain ⟨e1,e2,e3,m,e4,e5,hrun,hm,_⟩:=bounds_sound (P:=P) hρ (Nat.le_refl s.size) (Nat.le_refl s.size) hb hps false (.inl rfl)
   refine OpRun.value h (v:=.string (s.extract l.toNat hh.toNat)) ?_ (mk_sc rfl)
   simp only [Option.map_none] at hrun
   simp [execOp,ho,Instr.sliceAt,Instr.slice,run_underlying ht,hu,hrun]
  ·cases hop
 ·cases hop
theorem places_sound (w:World) (fs:Array Field) (hall:fs.all (fun f=>(P.info? f.type).isSome)=true):
  (fs.mapM fun f=>do pure (f.offset,← sizeOf f.type):Sem (Array (Nat × Nat))).run P w=.ok (fs.map fun f=>(f.offset,((P.info? f.type).map (·.size)).getD 0)) w:=by
 rw [Array.mapM_eq_mapM_toList]
 have key:∀ (l:List Field),(∀ f∈l,(P.info? f.type).isSome=true)→(l.mapM fun f=>do pure (f.offset,← sizeOf f.type):Sem (List (Nat × Nat))).run P w=.ok (l.map fun f=>(f.offset,((P.info? f.type).map (·.size)).getD 0)) w:=by
  intro l
  induction l with
  | nil=>intro _; rfl
  | cons f l ih=>
   intro hl
   obtain ⟨i,hi⟩:=Option.isSome_iff_exists.1 (hl f (.head _))
   have hrest:=ih (fun g hg=>hl g (.tail _ hg))
   simp only [List.mapM_cons,Sem.run_bind,sizeOf,typeInfo,run_program,Result.andThen_ok,hi,Sem.run_pure] at hrest ⊢
   rw [hrest]
   simp [hi]
 have h2:=key fs.toList (fun f hf=>by rw [Array.all_eq_true_iff_forall_mem] at hall; exact hall f (by simpa using hf))
 rw [Sem.run_map]
 refine (congrArg (fun r=>Result.andThen r _) h2).trans ?_
 show Result.ok _ w=_
 congr 1
 apply Array.ext'
 simp
theorem op_build (h:HRel β hp S w Wr) (hρ:∀ x,RelD β hp S w (ρ x) (ρv x)) {t:TypeId} {parts:Array (Nat × Operand)} (ho:o.op=.build t parts) (hop:opx P o ρ hp os=some (d,hp',os',ps)):OpRun P Wr S β hp w ρv o d hp':=by
 unfold opx at hop
 rw [ho] at hop
 simp only at hop
 have hparts:(parts.map fun (x:Nat × Operand)=>(x.1,ρv x.2)).toList=parts.toList.map fun (i,x)=>(i,ρv x):=by simp
 split at hop
 ·rename_i i fs hi ht
  split at hop
  ·rename_i z hz
   split at hop
   ·rename_i hc
    obtain ⟨hl,hall⟩:=hc
    simp only [Option.map_eq_some_iff,Prod.mk.injEq] at hop
    obtain ⟨cs,hfill,rfl,rfl,rfl,rfl⟩:=hop
    have hr0:RelL β hp S w (litV z).cells z.cells.toList:=(RelV.lit hl).cells
    obtain ⟨us,g1,g2⟩:=fill_sound (ρ:=ρ) (ρv:=ρv) _ parts.toList _ cs z.cells hρ hr0 hfill
    have hpl:=places_sound (P:=P) w fs hall
    refine OpRun.value h (v:=.agg us) ?_ ⟨us,rfl,g2⟩
    have hplace:(fun (i:Nat)=>(fs.map fun (f:Field)=>(f.offset,((P.info? f.type).map (·.size)).getD 0))[i]?)=(fun (i:Nat)=>(fs[i]?).map fun (f:Field)=>(f.offset,((P.info? f.type).map (·.size)).getD 0)):=by
     funext i; simp
    simp only [execOp,ho,Instr.build,Sem.run_bind,zeroValue,typeInfo,run_program,Result.andThen_ok,hi,hz,Sem.run_pure,run_underlying ht,hpl,hplace,hparts,g1]
   ·cases hop
  ·cases hop
 ·rename_i i n e hi ht
  split at hop
  ·rename_i z ie hz hie
   split at hop
   ·rename_i hl
    simp only [Option.map_eq_some_iff,Prod.mk.injEq] at hop
    obtain ⟨cs,hfill,rfl,rfl,rfl,rfl⟩:=hop
    have hr0:RelL β hp S w (litV z).cells z.cells.toList:=(RelV.lit hl).cells
    obtain ⟨us,g1,g2⟩:=fill_sound (ρ:=ρ) (ρv:=ρv) _ parts.toList _ cs z.cells hρ hr0 hfill
    refine OpRun.value h (v:=.agg us) ?_ ⟨us,rfl,g2⟩
    simp only [execOp,ho,Instr.build,Sem.run_bind,zeroValue,sizeOf,typeInfo,run_program,Result.andThen_ok,hi,hie,hz,Sem.run_pure,run_underlying ht,hparts,g1]
   ·cases hop
  ·cases hop
 ·cases hop
theorem splice_nil:∀ (cs:List C) (off:Nat),splice cs off []=cs
 | [],0=>rfl
 | [],_+1=>rfl
 | c::cs,0=>by simp [splice]
 | c::cs,n+1=>by simp [splice,splice_nil cs n]
theorem ar_store (h:HRel β hp S w Wr) {id ver off n sz:Nat} {cs new:List C} {us:List Value} {u:Value} (hid:hp[id]? =some (.cells sz ver cs false)) (hr:RelC β hp S w (.ar id ver off n) u) (hver:ver≠0)
  (hus:RelL β hp S w new us) (hpl:∀ c∈new,plain c=true) (hlen:new.length≤n*sz):
  ∃ a cap w',u=.slice a n cap∧(a=none→w'=w∧new= [])∧(∀ x,a=some x→(storeCells x us).run P w=.ok () w')∧(n=0→w'=w)∧off+n*sz≤cs.length∧
   HRel β (hp.set id (.cells sz ver (splice cs off new) false)) S w' Wr∧Ext β hp S β (hp.set id (.cells sz ver (splice cs off new) false)) S∧Evo Wr S w w':=by
 simp only [RelC,RelP] at hr
 obtain ⟨_,hlt,hs⟩:=hr
 obtain ⟨_,hs⟩:=hs sz ver cs false hid
 obtain ⟨hle,hs⟩:=hs rfl
 have hsame:new= []→HRel β (hp.set id (.cells sz ver (splice cs off new) false)) S w Wr∧Ext β hp S β (hp.set id (.cells sz ver (splice cs off new) false)) S:=fun e=>by
  subst e
  have:hp.set id (.cells sz ver (splice cs off []) false)=hp:=by
   rw [splice_nil]
   apply List.ext_getElem?
   intro j
   rw [List.getElem?_set]
   split
   ·rename_i e; subst e; exact hid.symm
   ·rfl
  rw [this]
  exact ⟨h,Ext.refl _ _ _⟩
 have husl:us.length=new.length:=hus.length
 rcases hs with ⟨rfl,hnone,a,rfl⟩ | ⟨b,oo,cap,e',arr,fr,hb,rfl,hcap,hbk,hroom,hcov⟩
 ·have hnew:new= []:=List.eq_nil_of_length_eq_zero (by omega)
  have hu0:us= []:=List.eq_nil_of_length_eq_zero (by rw [husl,hnew]; rfl)
  subst hu0
  obtain ⟨q1,q2⟩:=hsame hnew
  exact ⟨a,0,w,rfl,fun _=>⟨rfl,hnew⟩,fun x _=>by simp [storeCells],fun _=>rfl,hle,q1,q2,Evo.refl _ _ _⟩
 ·by_cases hn0:new= []
  ·have hu0:us= []:=List.eq_nil_of_length_eq_zero (by rw [husl,hn0]; rfl)
   subst hu0
   obtain ⟨q1,q2⟩:=hsame hn0
   exact ⟨_,cap,w,rfl,(fun hh=>by cases hh),(fun x _=>by simp [storeCells]),fun _=>rfl,hle,q1,q2,Evo.refl _ _ _⟩
  ·have hfr:w.heap[b]? =some (.cells arr e' (0,0)):=by
    obtain ⟨_,hc⟩:=h.cells id sz ver cs false hid
    rcases hc with hc | ⟨b2,o2,arr2,e2,k1,k2,_⟩
    ·rw [hc.1] at hb; cases hb
    ·rw [hb] at k1
     simp only [Option.some.injEq,Prod.mk.injEq] at k1
     obtain ⟨rfl,rfl⟩:=k1
     rw [hbk] at k2
     simp only [Option.some.injEq,Obj.cells.injEq] at k2
     obtain ⟨rfl,rfl,rfl⟩:=k2
     exact hbk
   have hcell:∀ j,j<arr.size→(w.cell? ⟨b,j,none⟩).isSome=true:=fun j hj=>by simp [World.cell?,hbk,hj]
   have hcm:n*sz≤cap*sz:=Nat.mul_le_mul_right _ hcap
   obtain ⟨q1,q2,q3⟩:=h.store (off:=off) hid hb (by omega) hus (fun _=>hpl)
   refine ⟨_,cap,_,rfl,(fun hh=>by cases hh),fun x hx=> ?_,fun hn=> ?_,hle,q1,q2,q3⟩
   ·injection hx with hx; subst hx
    have hst:=run_storeCells_cells (P:=P) b (oo+off) us 0 w (fun j hj=>hcell _ (by omega)) (fun j hj=>by simp [World.frozen?,hfr]) hus.all
    simpa only [Nat.add_zero] using hst
   ·subst hn
    exact absurd (List.eq_nil_of_length_eq_zero (by omega)) hn0
theorem op_clear (h:HRel β hp S w Wr) (hρ:∀ x,RelD β hp S w (ρ x) (ρv x)) {c:Call} (ho:o.op=.call c) (hc:c.callee=.builtin .clear) (hop:opx P o ρ hp os=some (d,hp',os',ps)) (hps:∀ p∈ps,p):OpRun P Wr S β hp w ρv o d hp':=by
 unfold opx at hop
 rw [ho] at hop
 simp only [hc] at hop
 split at hop
 case h_2=>cases hop
 rename_i id ver off n t hargs hts
 split at hop
 case h_2=>cases hop
 rename_i e ht
 split at hop
 case h_2=>cases hop
 rename_i ie hie
 split at hop
 case h_2=>cases hop
 rename_i z hz
 split at hop
 case h_2=>cases hop
 rename_i sz ver' cs hid
 split at hop
 case isFalse=>cases hop
 rename_i hcond
 obtain ⟨hlz,hzs,rfl,rfl,hv0⟩:=hcond
 simp only [Option.some.injEq,Prod.mk.injEq] at hop
 obtain ⟨rfl,rfl,rfl,rfl⟩:=hop
 obtain ⟨oa,hab,hs⟩:=map_one hargs
 have hrs:RelC β hp S w (.ar id ver off n) (ρv oa):=rel_one (hρ oa) hs
 have hz0:(zeroRow z n).length=n*ie.size:=by simp [zeroRow,hzs,List.length_flatten,List.map_replicate]
 have hsz:0<ie.size:=(h.cells id _ _ _ _ hid).1.1
 obtain ⟨a,cap,w',hu,k1,k2,k3,k4,k5,k6,k7⟩:=ar_store (P:=P) h hid hrs hv0 (zeros_rel hlz n) (zeroRow_plain z n) (by rw [hz0]; exact Nat.le_refl _)
 have hexec:(Builtin.clear_ #[t] o.type #[ρv oa]).run P w=.ok (.tuple #[]) w':=by
  rw [hu]
  cases a with
  | none=>simp [Builtin.clear_,run_underlying ht,(k1 rfl).1]
  | some x=>
   cases n with
   | zero=>simp [Builtin.clear_,run_underlying ht,k3 rfl]
   | succ n=>
    have h2:=k2 x rfl
    have h3:(Builtin.zeroCells z.cells (n+1)).toList=(List.replicate (n+1) z.cells.toList).flatten:=by
     have:=zeros_eq z (n+1) z.cells.size rfl (by omega)
     unfold Builtin.zeroCells
     rw [this]
    simp [Builtin.clear_,run_underlying ht,zeroValue,typeInfo,hie,hz,h3,h2]
 refine ⟨.value (.tuple #[]),.tuple #[],w',β,?_,.inl rfl,trivial,k5,k6,k7⟩
 simp [execOp,ho,resolve,hc,toList_one hab,toList_one hts,invoke,builtin,hexec]
theorem op_copy (h:HRel β hp S w Wr) (hρ:∀ x,RelD β hp S w (ρ x) (ρv x)) {c:Call} (ho:o.op=.call c) (hc:c.callee=.builtin .copy) (hop:opx P o ρ hp os=some (d,hp',os',ps)) (hps:∀ p∈ps,p):OpRun P Wr S β hp w ρv o d hp':=by
 unfold opx at hop
 rw [ho] at hop
 simp only [hc] at hop
 split at hop
 case h_2=>cases hop
 rename_i id ver off n x t t' hargs hts
 split at hop
 case h_2=>cases hop
 rename_i e ht
 split at hop
 case h_2=>cases hop
 rename_i ie hie
 split at hop
 case h_2=>cases hop
 rename_i m new sz ver' cs hsl hid
 split at hop
 case isFalse=>cases hop
 rename_i hcond
 obtain ⟨rfl,rfl,hv0⟩:=hcond
 simp only [Option.some.injEq,Prod.mk.injEq] at hop
 obtain ⟨rfl,rfl,rfl,rfl⟩:=hop
 obtain ⟨oa,ob,hab,hs,hx⟩:=map_two hargs
 have hrs:RelC β hp S w (.ar id ver off n) (ρv oa):=rel_one (hρ oa) hs
 have hrx:RelC β hp S w x (ρv ob):=rel_one (hρ ob) hx
 have hl:new.length=m*ie.size:=hps _ (.head _)
 have hroom:off+n*ie.size≤cs.length:=hps _ (.tail _ (.head _))
 have hsz:0<ie.size:=(h.cells id _ _ _ _ hid).1.1
 obtain ⟨us,gp,g1,g2,g3⟩:=run_firstCells (P:=P) h hsl hrx hl
 have hus:us.length=m*ie.size:=by rw [g2.length,hl]
 have hmn:min m n*ie.size≤m*ie.size:=Nat.mul_le_mul_right _ (Nat.min_le_left _ _)
 have hmn2:min m n*ie.size≤n*ie.size:=Nat.mul_le_mul_right _ (Nat.min_le_right _ _)
 obtain ⟨a,cap,w',hu,k1,k2,k3,k4,k5,k6,k7⟩:=ar_store (P:=P) h hid hrs hv0 (g2.take (min m n*ie.size)) (fun c hc=>gp c (List.mem_of_mem_take hc)) (by rw [List.length_take]; omega)
 have hfirst:(Builtin.firstCells ie.size (min m n) (ρv ob)).run P w=.ok (us.take (min m n*ie.size)).toArray w:=by
  obtain ⟨a',cap',hu',h3⟩:=slOf_sound h hsl hrx
  rw [hu']
  rcases h3 with ⟨hm0,hcs⟩ | ⟨b,oo,ha,hl2⟩
  ·have hnil:us= []:=List.eq_nil_of_length_eq_zero (by rw [hus,hm0]; simp)
   rw [hnil,hm0]
   cases a' with
   | none=>simp [Builtin.firstCells]
   | some a'=>simp [Builtin.firstCells,loadCells,loadCellsFrom]
  ·subst ha
   refine run_firstCells_some (P:=P) w ie.size (min m n) ⟨b,oo,none⟩ m cap' _ (by rw [List.length_take]; omega) (fun j v hv=> ?_)
   obtain ⟨vs,r1,r2⟩:=((hl2.take (min m n*ie.size)).lies (β:=β) (H:=hp)).values
   have hall:=g3 w rfl
   rw [hu'] at hall
   obtain ⟨vs2,s1,s2⟩:=(hl2.lies (β:=β) (H:=hp)).values
   have hf2:=run_firstCells_some (P:=P) w ie.size m ⟨b,oo,none⟩ m cap' vs2 (by rw [s1.length,hl]) (fun j v hv=>by rw [Addr.add_mid]; exact s2 j v hv)
   rw [hf2] at hall
   have he:vs2=us:=by simpa using hall
   rw [Addr.add_mid]
   refine s2 j v ?_
   rw [he]
   rw [List.getElem?_take] at hv
   split at hv
   ·exact hv
   ·cases hv
 have hexec:(Builtin.copy_ #[t,t'] o.type #[ρv oa,ρv ob]).run P w=.ok (.int .i64 (min m n:Nat)) w':=by
  rw [hu]
  cases a with
  | none=>simp [Builtin.copy_,run_underlying ht,sizeOf,typeInfo,hie,g1,hfirst,(k1 rfl).1,goInt]
  | some x'=>simp [Builtin.copy_,run_underlying ht,sizeOf,typeInfo,hie,g1,hfirst,k2 x' rfl,goInt]
 refine ⟨.value (.int .i64 (min m n:Nat)),_,w',β,?_,.inl rfl,mk_int _ _,k5,k6,k7⟩
 simp [execOp,ho,resolve,hc,toList_two hab,toList_two hts,invoke,builtin,hexec]
theorem opx_sound (h:HRel β hp S w Wr) (hf:∀ b,w.heap.size≤b→Wr b) (hρ:∀ x,RelD β hp S w (ρ x) (ρv x)) (hop:opx P o ρ hp os=some (d,hp',os',ps)) (hps:∀ p∈ps,p):OpRun P Wr S β hp w ρv o d hp':=by
 cases ho:o.op with
 | move a=>exact op_move h hρ (.inl ho) hop
 | assign a=>exact op_move h hρ (.inr ho) hop
 | pick c a b=>exact op_pick h hρ ho hop hps
 | box t x=>exact op_box h (hf _ (Nat.le_refl _)) hρ ho hop
 | alloc t=>exact op_alloc h (hf _ (Nat.le_refl _)) ho hop
 | build t parts=>exact op_build h hρ ho hop
 | buildSlice t len parts=>exact op_buildSlice h hf hρ ho hop
 | load t a=>exact op_load h hρ ho hop hps
 | store t a x=>exact op_store h hρ ho hop
 | nilCheck x=>exact op_nilCheck h hρ ho hop hps
 | binOp op t a b yt=>exact op_binOp h hρ ho hop hps
 | unOp op t a=>exact op_unOp h hρ ho hop
 | convert src dst a=>exact op_convert h hρ ho hop
 | makeFunc fn first caps=>
  cases fn with
  | func f=>exact op_makeFunc h hρ ho hop
  | _=>unfold opx at hop; rw [ho] at hop; cases hop
 | makeSlice t l c=>exact op_makeSlice h hf hρ ho hop hps
 | slice t x lo hi mx=>exact op_slice h hρ ho hop hps
 | fieldAddr s a f=>exact op_fieldAddr h hρ ho hop hps
 | field s a f=>exact op_field h hρ ho hop
 | indexAddr t a i=>exact op_indexAddr h hρ ho hop hps
 | extract a i=>exact op_extract h hρ ho hop
 | call c=>
  cases hc:c.callee with
  | builtin b=>
   cases b with
   | append=>exact op_append h hf hρ ho hc hop hps
   | len=>exact op_len h hρ ho hc hop
   | clear=>exact op_clear h hρ ho hc hop hps
   | copy=>exact op_copy h hρ ho hc hop hps
   | min=>exact op_minmax h hρ ho (.inl hc) hop
   | max=>exact op_minmax h hρ ho (.inr hc) hop
   | _=>unfold opx at hop; rw [ho] at hop; simp only [hc] at hop; cases hop
  | value f=>unfold opx at hop; rw [ho] at hop; simp only [hc] at hop; cases hop
  | invoke r m=>unfold opx at hop; rw [ho] at hop; simp only [hc] at hop; cases hop
 | _=>unfold opx at hop; rw [ho] at hop; cases hop
end
end Go.Vm

namespace Go.Vm
set_option linter.unusedVariables false
set_option linter.unusedSimpArgs false
def keyEq (P:Program) (kt:TypeId) (a b:Value):Option Bool:=eqIn P eqDepth kt (a.cells.toList.map .sc) (b.cells.toList.map .sc)
def KeyIs (P:Program) (kt:TypeId) (a:Value):Prop:=∃ agg n,tinfo P kt=some (agg,n)∧a=valOf agg a.cells.toList∧∀ u∈a.cells.toList,u.oneCell'=true
section
variable {P:Program} {Wr:Nat→Prop} {S:Nat→Nat→Prop} {β:Nat→Option (Nat × Nat)} {H:List Ob} {hp hp':List Ob} {w w':World}
theorem run_keyEq {kt:TypeId} {a b:Value} {r:Bool} (ha:KeyIs P kt a) (hb:KeyIs P kt b) (h:keyEq P kt a b=some r):(Op.equal kt a b).run P w=.ok r w:=by
 obtain ⟨agg,n,ht,ea,ha⟩:=ha
 obtain ⟨agg',n',ht',eb,hb⟩:=hb
 rw [ht] at ht'
 injection ht' with ht'
 injection ht' with h1 h2
 subst h1; subst h2
 have:=(eqIn_sound (β:=fun _=>none) (hp:= []) (S:=fun _ _=>False) (w:=w) eqDepth 9980 kt agg n _ _ a.cells.toList b.cells.toList r ht h (RelL.lit ha) (RelL.lit hb)).2
 rw [← ea,← eb] at this
 simpa [Op.equal,Op.maxDepth,eqDepth] using this
theorem checkGo (em:Bool) (d:Nat) (eq:TypeId→List C→List C→Option Bool)
  (ih:∀ t agg n (us:List Value) r,tinfo P t=some (agg,n)→(∀ u∈us,u.oneCell'=true)→eq t (us.map .sc) (us.map .sc)=some r→(agg=false→us.length=1)∧(Instr.checkKey em d t (valOf agg us)).run P w=.ok () w) (us:List Value) (hus:∀ u∈us,u.oneCell'=true):
  ∀ (fs:List Field) (r:Bool),eqGo P eq fs (us.map .sc) (us.map .sc)=some r→(forIn (m:=Sem) fs PUnit.unit (fun (f:Field) (_:PUnit)=>
   if f.name≠ "_" then (part f.type us.toArray f.offset>>=fun v=>Instr.checkKey em d f.type v>>=fun _=>pure (ForInStep.yield PUnit.unit))
   else pure (ForInStep.yield PUnit.unit))).run P w=.ok PUnit.unit w
 | [],r,_=>by simp
 | f::fs,r,h=>by
  simp only [eqGo] at h
  split at h
  ·rename_i hname
   split at h
   ·rename_i agg n ht
    split at h
    ·rename_i a b h1 h2
     have hm:((us.map C.sc).drop f.offset).take n=((us.drop f.offset).take n).map .sc:=by rw [List.map_take,List.map_drop]
     rw [hm] at h1
     obtain ⟨e1,e2⟩:=ih f.type agg n _ a ht (fun u hu=>hus u (List.mem_of_mem_drop (List.mem_of_mem_take hu))) h1
     have p1:=run_part (us:=us) (off:=f.offset) ht (fun ha=>e1 ha) w
     have hrest:=checkGo em d eq ih us hus fs b h2
     simp only [List.forIn_cons,Sem.run_bind]
     rw [if_pos hname]
     simp only [Sem.run_bind,p1,Result.andThen_ok,e2,Sem.run_pure]
     exact hrest
    ·cases h
   ·cases h
  ·cases h
theorem checkIn (em:Bool):∀ (dp k:Nat) (t:TypeId) (agg:Bool) (n:Nat) (us:List Value) (r:Bool),tinfo P t=some (agg,n)→(∀ u∈us,u.oneCell'=true)→eqIn P dp t (us.map .sc) (us.map .sc)=some r→
  (agg=false→us.length=1)∧(Instr.checkKey em (dp+k) t (valOf agg us)).run P w=.ok () w
 | 0,_,_,_,_,_,_,_,_,h=>by simp [eqIn] at h
 | dp+1,k,t,agg,n,us,r,ht,hus,h=>by
  rw [show dp+1+k=(dp+k)+1 by omega]
  simp only [eqIn] at h
  split at h
  ·rename_i a b hd hx hy
   obtain ⟨u,rfl,hu⟩:∃ u,us= [u]∧u=.bool a:=by
    cases us with
    | nil=>cases hx
    | cons u us=>cases us with
     | nil=>simp only [List.map_cons,List.map_nil,List.cons.injEq,C.sc.injEq,and_true] at hx; exact ⟨u,rfl,hx⟩
     | cons _ _=>simp at hx
   have hagg:agg=false:=by
    cases agg with
    | false=>rfl
    | true=>obtain ⟨⟨dd,h1,h2⟩,_⟩:=tinfo_agg ht; rw [hd] at h1; injection h1 with h1; subst h1; simp at h2
   subst hagg; subst hu
   exact ⟨fun _=>rfl,by simp [Instr.checkKey,run_underlying hd,valOf]⟩
  ·rename_i kk k1 a k2 b hd hx hy
   obtain ⟨u,rfl,hu⟩:∃ u,us= [u]∧u=.int k1 a:=by
    cases us with
    | nil=>cases hx
    | cons u us=>cases us with
     | nil=>simp only [List.map_cons,List.map_nil,List.cons.injEq,C.sc.injEq,and_true] at hx; exact ⟨u,rfl,hx⟩
     | cons _ _=>simp at hx
   have hagg:agg=false:=by
    cases agg with
    | false=>rfl
    | true=>obtain ⟨⟨dd,h1,h2⟩,_⟩:=tinfo_agg ht; rw [hd] at h1; injection h1 with h1; subst h1; simp at h2
   subst hagg; subst hu
   exact ⟨fun _=>rfl,by simp [Instr.checkKey,run_underlying hd,valOf]⟩
  ·rename_i a b hd hx hy
   obtain ⟨u,rfl,hu⟩:∃ u,us= [u]∧u=.string a:=by
    cases us with
    | nil=>cases hx
    | cons u us=>cases us with
     | nil=>simp only [List.map_cons,List.map_nil,List.cons.injEq,C.sc.injEq,and_true] at hx; exact ⟨u,rfl,hx⟩
     | cons _ _=>simp at hx
   have hagg:agg=false:=by
    cases agg with
    | false=>rfl
    | true=>obtain ⟨⟨dd,h1,h2⟩,_⟩:=tinfo_agg ht; rw [hd] at h1; injection h1 with h1; subst h1; simp at h2
   subst hagg; subst hu
   exact ⟨fun _=>rfl,by simp [Instr.checkKey,run_underlying hd,valOf]⟩
  ·rename_i fs hd
   split at h
   ·cases h
   ·rename_i hst
    have hagg:agg=true:=by
     cases agg with
     | true=>rfl
     | false=>obtain ⟨⟨dd,h1,h2⟩,_⟩:=tinfo_one ht; rw [hd] at h1; injection h1 with h1; subst h1; simp at h2
    subst hagg
    refine ⟨(fun hh=>by cases hh),?_⟩
    have:=checkGo (P:=P) (w:=w) em (dp+k) (eqIn P dp) (fun t' agg' n' us' r' a1 a2 a3=>checkIn em dp k t' agg' n' us' r' a1 a2 a3) us hus fs.toList r h
    simp only [valOf,if_true,Instr.checkKey,Sem.run_bind,run_underlying hd,Result.andThen_ok]
    rw [← Array.forIn_toList]
    rw [this]
    rfl
  ·cases h
theorem run_check {kt:TypeId} {a:Value} {r:Bool} (ha:KeyIs P kt a) (h:keyEq P kt a a=some r) (em:Bool):(Instr.checkKey em 10000 kt a).run P w=.ok () w:=by
 obtain ⟨agg,n,ht,ea,ha⟩:=ha
 have:=(checkIn (P:=P) (w:=w) em eqDepth 9980 kt agg n a.cells.toList r ht ha h).2
 rw [← ea] at this
 simpa [eqDepth] using this
def findE (r:MapEntry→Bool):List MapEntry→Nat→Option (Nat × Value)
 | [],_=>none
 | e::es,i=>if r e then some (i,e.val) else findE r es (i+1)
theorem same_key {kt:TypeId} {d:TypeDesc} (hd:P.underlying kt=some d) {x y:Value} {r b:Bool} (h:keyEq P kt x y=some r) (hs:Instr.sameNow d x y=some b):b=r:=by
 unfold keyEq eqDepth eqIn at h
 rw [hd] at h
 unfold Instr.sameNow at hs
 split at hs
 ·simp only [Value.cells,List.map_cons,List.map_nil] at h
  split at hs
  ·rename_i hk
   subst hk
   simp only [if_true,Option.some.injEq] at h hs
   rw [← h,← hs]
  ·cases hs
 ·simp only [Value.cells,List.map_cons,List.map_nil,Option.some.injEq] at h hs
  rw [← h,← hs]
 ·simp only [Value.cells,List.map_cons,List.map_nil,Option.some.injEq] at h hs
  rw [← h,← hs]
 ·cases hs
theorem findNow_or {kt:TypeId} {d:TypeDesc} (hd:P.underlying kt=some d) {x:Value} (r:MapEntry→Bool):∀ (es:List MapEntry) (i:Nat),(∀ e∈es,keyEq P kt x e.key=some (r e))→Instr.findNow d x es i=none∨Instr.findNow d x es i=some (findE r es i)
 | [],i,_=>.inr rfl
 | e::es,i,h=>by
  have h0:=h e (.head _)
  unfold Instr.findNow findE
  cases hs:Instr.sameNow d x e.key with
  | none=>exact .inl rfl
  | some b=>
   have:=same_key hd h0 hs
   subst this
   cases hb:r e with
   | true=>exact .inr rfl
   | false=>exact findNow_or hd r es (i+1) (fun e' he=>h e' (.tail _ he))
theorem run_asking {kt:TypeId} {x:Value} (hx:KeyIs P kt x) (r:MapEntry→Bool):∀ (es:List MapEntry) (i:Nat),(∀ e∈es,KeyIs P kt e.key∧keyEq P kt x e.key=some (r e))→(Instr.findAsking kt x es i).run P w=.ok (findE r es i) w
 | [],i,_=>by simp [Instr.findAsking,findE]
 | e::es,i,h=>by
  obtain ⟨h1,h2⟩:=h e (.head _)
  have ih:=run_asking hx r es (i+1) (fun e' he=>h e' (.tail _ he))
  simp only [Instr.findAsking,Sem.run_bind,run_keyEq (w:=w) hx h1 h2,Result.andThen_ok,findE]
  cases r e with
  | true=>simp
  | false=>simpa using ih
theorem run_find {kt:TypeId} {x:Value} (hx:KeyIs P kt x) (r:MapEntry→Bool) (es:List MapEntry) (h:∀ e∈es,KeyIs P kt e.key∧keyEq P kt x e.key=some (r e)):(Instr.findKey kt x es).run P w=.ok (findE r es 0) w:=by
 have hx':=hx
 obtain ⟨agg,n,ht,_,_⟩:=hx'
 obtain ⟨d,hd⟩:∃ d,P.underlying kt=some d:=by
  cases agg with
  | true=>obtain ⟨⟨d,h1,_⟩,_⟩:=tinfo_agg ht; exact ⟨d,h1⟩
  | false=>obtain ⟨⟨d,h1,_⟩,_⟩:=tinfo_one ht; exact ⟨d,h1⟩
 unfold Instr.findKey
 simp only [Sem.run_bind,run_underlying hd,Result.andThen_ok]
 rcases findNow_or hd r es 0 (fun e he=>(h e he).2) with h0 | h0
 ·rw [h0]; exact run_asking hx r es 0 h
 ·rw [h0]; simp
theorem same_self {x:Value} (h:∀ u∈x.cells.toList,(∃ b,u=.bool b)∨(∃ k z,u=.int k z)∨∃ s,u=.string s):Instr.sameBits 10000 x x=true:=by
 have hone:∀ (n:Nat) (u:Value),((∃ b,u=.bool b)∨(∃ k z,u=.int k z)∨∃ s,u=.string s)→Instr.sameBits n u u=true:=by
  rintro n u (⟨b,rfl⟩ | ⟨k,z,rfl⟩ | ⟨s,rfl⟩)
  ·cases n<;>simp [Instr.sameBits]
  ·cases n<;>simp [Instr.sameBits]
  ·cases n<;>simp [Instr.sameBits]<;>exact (Go.MapKept.bytes_beq s s).2 rfl
 cases x with
 | agg cs=>
  simp only [Value.cells] at h
  simp only [Instr.sameBits,BEq.rfl,Bool.true_and,List.all_eq_true]
  intro p hp
  obtain ⟨a,b⟩:=p
  have:=List.of_mem_zip hp
  have he:a=b:=by
   obtain ⟨i,hi,hp⟩:=List.getElem_of_mem hp
   rw [List.getElem_zip] at hp
   injection hp with h1 h2
   rw [← h1,← h2]
  subst he
  exact hone _ _ (h a this.1)
 | _=>exact hone _ _ (h _ (by simp [Value.cells]))
theorem run_stays {x:Value} (h:∀ u∈x.cells.toList,(∃ b,u=.bool b)∨(∃ k z,u=.int k z)∨∃ s,u=.string s):(Instr.keyThatStays x x).run P w=.ok x w:=by
 simp [Instr.keyThatStays,same_self h]
theorem HRel.newMap (h:HRel β H S w Wr) (hw:Wr w.heap.size):HRel (upd β H.length (some (w.heap.size,0))) (H++ [.map []]) S (w.alloc (.map #[] 0)) Wr∧Ext β H S (upd β H.length (some (w.heap.size,0))) (H++ [.map []]) S:=by
 have hx:=ext_push β H S (.map []) (some (w.heap.size,0))
 have hv:Evo Wr S w (w.alloc (.map #[] 0)):=Evo.alloc w _ h.imm
 have hold:∀ (j sz ver:Nat) (cs:List C) (fz:Bool),(H++ [Ob.map []])[j]? =some (.cells sz ver cs fz)→j<H.length∧H[j]? =some (.cells sz ver cs fz):=fun j sz ver cs fz hj=>by
  by_cases hlt:j<H.length
  ·rw [List.getElem?_append_left hlt] at hj; exact ⟨hlt,hj⟩
  ·have:j=H.length:=by have:=(List.getElem?_eq_some_iff.1 hj).1; simp at this; omega
   subst this
   simp at hj
 refine ⟨⟨fun id sz ver cs fz hH=> ?_,fun id id' sz1 ver1 cs1 fz1 sz2 ver2 cs2 fz2 b o o' h1 h2 h3 h4=> ?_,fun b o hs=>by have:=h.imm b o hs; simp; omega,fun id es hH=> ?_,fun id id' es es' b o o' h1 h2 h3 h4=> ?_⟩,hx⟩
 ·obtain ⟨hid,hH⟩:=hold _ _ _ _ _ hH
  obtain ⟨hsz',h'⟩:=h.cells id sz ver cs fz hH
  refine ⟨hsz',?_⟩
  rw [upd_other β _ (by omega)]
  rcases h' with h' | ⟨b,o,arr,e',k1,k2,k3,k4,k5,k6⟩
  ·exact .inl h'
  ·have hb:b<w.heap.size:=(Array.getElem?_eq_some_iff.1 k2).1
   refine .inr ⟨b,o,arr,e',k1,by rw [RowKit.Below.heap_alloc _ _ _ hb]; exact k2,k3,k4,fun j c hc=> ?_,k6⟩
   obtain ⟨u,m1,m2⟩:=k5 j c hc
   exact ⟨u,(cell_of_heap (RowKit.Below.heap_alloc _ _ _ hb) _).trans m1,RelC.step hx hv c u m2⟩
 ·obtain ⟨hi1,g1⟩:=hold _ _ _ _ _ h1
  obtain ⟨hi2,g2⟩:=hold _ _ _ _ _ h2
  rw [upd_other β _ (by omega)] at h3 h4
  exact h.inj id id' _ _ _ _ _ _ _ _ b o o' g1 g2 h3 h4
 ·by_cases hlt:id<H.length
  ·rw [List.getElem?_append_left hlt] at hH
   obtain ⟨b,arr,clock,k1,k2,k3,k4⟩:=h.maps id es hH
   have hb:b<w.heap.size:=(Array.getElem?_eq_some_iff.1 k2).1
   exact ⟨b,arr,clock,by rw [upd_other β _ (by omega)]; exact k1,by rw [RowKit.Below.heap_alloc _ _ _ hb]; exact k2,k3,k4.step hx hv⟩
  ·have:id=H.length:=by have:=(List.getElem?_eq_some_iff.1 hH).1; simp at this; omega
   subst this
   simp only [List.getElem?_concat_length,Option.some.injEq,Ob.map.injEq] at hH
   subst hH
   exact ⟨w.heap.size,#[],0,upd_same _ _ _,heap_alloc_new w _,hw,rfl,fun j k x hj=>by simp at hj⟩
 ·have hnew:∀ (i:Nat) (es:List (Value × V)) (b o:Nat),(H++ [Ob.map []])[i]? =some (.map es)→upd β H.length (some (w.heap.size,0)) i=some (b,o)→(i<H.length∧H[i]? =some (.map es)∧β i=some (b,o)∧b<w.heap.size)∨(i=H.length∧b=w.heap.size):=fun i es b o hi hb=>by
   by_cases hlt:i<H.length
   ·rw [List.getElem?_append_left hlt] at hi
    rw [upd_other β _ (by omega)] at hb
    exact .inl ⟨hlt,hi,hb,h.map_lt hi hb⟩
   ·have:i=H.length:=by have:=(List.getElem?_eq_some_iff.1 hi).1; simp at this; omega
    subst this
    rw [upd_same] at hb
    injection hb with hb; injection hb with hb _
    exact .inr ⟨rfl,hb.symm⟩
  rcases hnew id es b o h1 h3 with ⟨a1,a2,a3,a4⟩ | ⟨a1,a2⟩<;>rcases hnew id' es' b o' h2 h4 with ⟨c1,c2,c3,c4⟩ | ⟨c1,c2⟩
  ·exact h.injm id id' es es' b o o' a2 c2 a3 c3
  ·omega
  ·omega
  ·omega
theorem evo_setMap {b:Nat} {arr:Array MapEntry} {clock:Nat} (hb:w.heap[b]? =some (.map arr clock)) (hw:Wr b) (arr':Array MapEntry) (clock':Nat):Evo Wr S w {w with heap:=w.heap.setIfInBounds b (.map arr' clock')} :=by
 have hlt:b<w.heap.size:=(Array.getElem?_eq_some_iff.1 hb).1
 have hget:∀ k,k≠b→(w.heap.setIfInBounds b (.map arr' clock'))[k]? =w.heap[k]? :=fun k hk=>by rw [Array.getElem?_setIfInBounds,if_neg (fun e=>hk e.symm)]
 refine ⟨rfl,rfl,rfl,by simp,fun k hk hn=>hget k (fun e=>hn (e ▸ hw)),fun k o hs=> ?_,fun k arr0 e fr hk=>⟨arr0,fr,?_,rfl⟩⟩
 ·by_cases hk:k=b
  ·subst hk
   simp only [World.cell?,hb,Array.getElem?_setIfInBounds,if_true,hlt]
  ·exact cell_of_heap (hget k hk) o
 ·have:k≠b:=fun e=>by subst e; rw [hb] at hk; cases hk
  rw [← hk]; exact hget k this
theorem ext_setMap (β:Nat→Option (Nat × Nat)) (H:List Ob) (S:Nat→Nat→Prop) {id:Nat} {es es':List (Value × V)} (hid:H[id]? =some (.map es)):Ext β H S β (H.set id (.map es')) S where
 len:=by simp
 ids:=fun i sz ver cs fz hi hH=>by
  rw [List.getElem?_set] at hH
  split at hH
  ·split at hH<;>cases hH
  ·exact ⟨ver,cs,fz,hH,Nat.le_refl _,fun _=>⟨rfl,rfl⟩⟩
 mps:=fun i es0 hi hH=>by
  rw [List.getElem?_set] at hH
  split at hH
  ·rename_i e; subst e; exact ⟨es,hid,rfl⟩
  ·exact ⟨es0,hH,rfl⟩
 sub:=fun _ _ h=>h
theorem HRel.setMap (h:HRel β H S w Wr) {id b:Nat} {es es':List (Value × V)} {arr arr':Array MapEntry} {clock clock':Nat} (hid:H[id]? =some (.map es)) (hβ:β id=some (b,0)) (hb:w.heap[b]? =some (.map arr clock)) (hm:MapRel β H S w es' arr'.toList):
  HRel β (H.set id (.map es')) S {w with heap:=w.heap.setIfInBounds b (.map arr' clock')} Wr:=by
 have hlt:id<H.length:=(List.getElem?_eq_some_iff.1 hid).1
 have hwr:Wr b:=by
  obtain ⟨b',arr2,c2,k1,k2,k3,_⟩:=h.maps id es hid
  rw [hβ] at k1; injection k1 with k1; injection k1 with k1 _; subst k1; exact k3
 have hx:=ext_setMap β H S (es':=es') hid
 have hv:=evo_setMap (S:=S) hb hwr arr' clock'
 have hblt:b<w.heap.size:=(Array.getElem?_eq_some_iff.1 hb).1
 have hget:∀ k,k≠b→(w.heap.setIfInBounds b (.map arr' clock'))[k]? =w.heap[k]? :=fun k hk=>by rw [Array.getElem?_setIfInBounds,if_neg (fun e=>hk e.symm)]
 have hself:(w.heap.setIfInBounds b (.map arr' clock'))[b]? =some (.map arr' clock'):=by rw [Array.getElem?_setIfInBounds,if_pos rfl,if_pos hblt]
 have hcell:∀ (j sz ver:Nat) (cs:List C) (fz:Bool),(H.set id (Ob.map es'))[j]? =some (.cells sz ver cs fz)→H[j]? =some (.cells sz ver cs fz):=fun j sz ver cs fz hj=>by
  rw [List.getElem?_set] at hj
  split at hj
  ·first | cases hj | (split at hj<;>cases hj)
  ·exact hj
 refine ⟨fun i sz ver cs fz hH=> ?_,fun i i' sz1 ver1 cs1 fz1 sz2 ver2 cs2 fz2 b1 o1 o2 h1 h2 h3 h4=>h.inj i i' _ _ _ _ _ _ _ _ b1 o1 o2 (hcell _ _ _ _ _ h1) (hcell _ _ _ _ _ h2) h3 h4,fun b1 o1 hs=>by have:=h.imm b1 o1 hs; simpa using this,fun i es0 hH=> ?_,fun i i' es1 es2 b1 o1 o2 h1 h2 h3 h4=> ?_⟩
 ·obtain ⟨k0,k⟩:=h.cells i sz ver cs fz (hcell _ _ _ _ _ hH)
  refine ⟨k0,?_⟩
  rcases k with k | ⟨b1,o1,arr1,e1,k1,k2,k3,k4,k5,k6⟩
  ·exact .inl k
  ·have hne:b1≠b:=fun e=>by subst e; rw [hb] at k2; cases k2
   refine .inr ⟨b1,o1,arr1,e1,k1,(hget b1 hne).trans k2,k3,k4,fun j c hj=> ?_,k6⟩
   obtain ⟨u,u1,u2⟩:=k5 j c hj
   exact ⟨u,(cell_of_heap (hget b1 hne) _).trans u1,RelC.step hx hv c u u2⟩
 ·rw [List.getElem?_set] at hH
  split at hH
  ·rename_i e
   subst e
   simp only [hlt,if_true,Option.some.injEq,Ob.map.injEq] at hH
   subst hH
   exact ⟨b,arr',clock',hβ,hself,hwr,hm.step hx hv⟩
  ·rename_i hne
   obtain ⟨b1,arr1,c1,k1,k2,k3,k4⟩:=h.maps i es0 hH
   have:b1≠b:=fun e=>hne (h.injm id i es es0 b 0 0 hid hH hβ (e ▸ k1))
   exact ⟨b1,arr1,c1,k1,(hget b1 this).trans k2,k3,k4.step hx hv⟩
 ·have hm2:∀ (i:Nat) (es0:List (Value × V)),(H.set id (Ob.map es'))[i]? =some (.map es0)→∃ es1,H[i]? =some (Ob.map es1):=fun i es0 hi=>by
   rw [List.getElem?_set] at hi
   split at hi
   ·rename_i e; subst e; exact ⟨es,hid⟩
   ·exact ⟨es0,hi⟩
  obtain ⟨_,g1⟩:=hm2 _ _ h1
  obtain ⟨_,g2⟩:=hm2 _ _ h2
  exact h.injm i i' _ _ b1 o1 o2 g1 g2 h3 h4
end
end Go.Vm

namespace Go.Tm
set_option linter.unusedVariables false
inductive Ty where
 | int (k:IntKind)
 | bool
 | str
 | nat
 | unit
 | prod (a b:Ty)
 | arr (n:Nat) (t:Ty)
 | fl (t:Ty)
 | row (t:Ty)
 deriving DecidableEq,Inhabited
@[reducible] def Ty.den:Ty→Type
 | .int _=>Int
 | .bool=>Bool
 | .str=>ByteArray
 | .nat=>Nat
 | .unit=>Unit
 | .prod a b=>a.den × b.den
 | .arr _ t=>Nat→t.den
 | .fl t=>List t.den
 | .row t=>t.den
abbrev BoolD:=Bool
abbrev NatD:=Nat
def castD {a b:Ty} (h:a=b) (v:a.den):b.den:=h ▸ v
def Ty.dflt:(t:Ty)→t.den
 | .int _=>(0:Int)
 | .bool=>false
 | .str=>ByteArray.empty
 | .nat=>(0:Nat)
 | .unit=>()
 | .prod a b=>(a.dflt,b.dflt)
 | .arr _ t=>fun _=>t.dflt
 | .fl _=> []
 | .row t=>t.dflt
abbrev bLit (b:Bool):BoolD:=b
abbrev nLit (n:Nat):NatD:=n
abbrev iLit (k:IntKind) (z:Int):(Ty.int k).den:=z
abbrev sLit (s:ByteArray):Ty.str.den:=s
abbrev vUnit:Ty.unit.den:=()
abbrev ofB (b:BoolD):Ty.bool.den:=b
abbrev toB (b:Ty.bool.den):BoolD:=b
abbrev ofN (n:NatD):Ty.nat.den:=n
abbrev toN (n:Ty.nat.den):NatD:=n
abbrev bAnd (a b:BoolD):BoolD:=a && b
abbrev bOr (a b:BoolD):BoolD:=a || b
abbrev bNot (a:BoolD):BoolD:= !a
abbrev bIte (c a b:BoolD):BoolD:=cond c a b
abbrev nIte (c:BoolD) (a b:NatD):NatD:=cond c a b
abbrev tIte (t:Ty) (c:BoolD) (a b:t.den):t.den:=cond c a b
abbrev dMk {a b:Ty} (x:a.den) (y:b.den):(Ty.prod a b).den:=(x,y)
abbrev dFst {a b:Ty} (v:(Ty.prod a b).den):a.den:=v.1
abbrev dSnd {a b:Ty} (v:(Ty.prod a b).den):b.den:=v.2
abbrev ofRow {t:Ty} (v:(Ty.row t).den):t.den:=v
abbrev toRow {t:Ty} (v:t.den):(Ty.row t).den:=v
abbrev aGet {n:Nat} {t:Ty} (f:(Ty.arr n t).den) (i:NatD):t.den:=f i
abbrev aSet {n:Nat} {t:Ty} (f:(Ty.arr n t).den) (i:NatD) (v:t.den):(Ty.arr n t).den:=fun j=>bif Nat.beq j i then v else f j
abbrev aOf (n:Nat) {t:Ty} (l:List t.den):(Ty.arr n t).den:=fun i=>(l[i]?).getD t.dflt
abbrev aAll (n:Nat) {t:Ty} (v:t.den):(Ty.arr n t).den:=fun _=>v
abbrev lNil {t:Ty} :(Ty.fl t).den:= []
abbrev lCons {t:Ty} (x:t.den) (l:(Ty.fl t).den):(Ty.fl t).den:=x::l
abbrev lLen {t:Ty} (l:(Ty.fl t).den):NatD:=l.length
abbrev lGet {t:Ty} (l:(Ty.fl t).den) (i:NatD):t.den:=(l[i]?).getD t.dflt
abbrev lSet {t:Ty} (l:(Ty.fl t).den) (i:NatD) (v:t.den):(Ty.fl t).den:=l.set i v
abbrev lApp {t:Ty} (l m:(Ty.fl t).den):(Ty.fl t).den:=l++m
abbrev lTake {t:Ty} (n:NatD) (l:(Ty.fl t).den):(Ty.fl t).den:=l.take n
abbrev lDrop {t:Ty} (n:NatD) (l:(Ty.fl t).den):(Ty.fl t).den:=l.drop n
abbrev lPut {t:Ty} (i:NatD) (m l:(Ty.fl t).den):(Ty.fl t).den:=l.take i++(m++l.drop (i+m.length))
abbrev lRep {t:Ty} (n:NatD) (v:t.den):(Ty.fl t).den:=List.replicate n v
abbrev nAdd (a b:NatD):NatD:=a+b
abbrev nSub (a b:NatD):NatD:=a - b
abbrev nLt (a b:NatD):BoolD:=decide (a<b)
abbrev nLe (a b:NatD):BoolD:=decide (a≤b)
abbrev nEq (a b:NatD):BoolD:=decide (a=b)
abbrev nFits (a:NatD) (bytes:Nat):BoolD:=decide (a*bytes≤140737488355328)
abbrev iOfN (k:IntKind) (n:NatD):(Ty.int k).den:=(n:Int)
abbrev nOfI {k:IntKind} (z:(Ty.int k).den):NatD:=Int.toNat z
abbrev iNonneg {k:IntKind} (z:(Ty.int k).den):BoolD:=decide ((0:Int)≤z)
abbrev iNe0 {k:IntKind} (z:(Ty.int k).den):BoolD:=(show Int from z) !=0
abbrev iAdd (k:IntKind) (a b:(Ty.int k).den):(Ty.int k).den:=k.wrap ((show Int from a)+b)
abbrev iSub (k:IntKind) (a b:(Ty.int k).den):(Ty.int k).den:=k.wrap ((show Int from a) - b)
abbrev iMul (k:IntKind) (a b:(Ty.int k).den):(Ty.int k).den:=k.wrap ((show Int from a)*b)
abbrev iQuo (k:IntKind) (a b:(Ty.int k).den):(Ty.int k).den:=k.wrap (Int.tdiv a b)
abbrev iRem (k:IntKind) (a b:(Ty.int k).den):(Ty.int k).den:=Int.tmod a b
abbrev iNeg (k:IntKind) (a:(Ty.int k).den):(Ty.int k).den:=k.wrap (0 - (show Int from a))
abbrev iCpl (k:IntKind) (a:(Ty.int k).den):(Ty.int k).den:=k.wrap (BitVec.ofInt k.bits (if k.signed then -1 else k.max) ^^^ BitVec.ofInt k.bits a).toNat
abbrev iConv (k k':IntKind) (a:(Ty.int k).den):(Ty.int k').den:=k'.wrap a
abbrev iBand (k:IntKind) (a b:(Ty.int k).den):(Ty.int k).den:=k.wrap (BitVec.ofInt k.bits a &&& BitVec.ofInt k.bits b).toNat
abbrev iBor (k:IntKind) (a b:(Ty.int k).den):(Ty.int k).den:=k.wrap (BitVec.ofInt k.bits a ||| BitVec.ofInt k.bits b).toNat
abbrev iBxor (k:IntKind) (a b:(Ty.int k).den):(Ty.int k).den:=k.wrap (BitVec.ofInt k.bits a ^^^ BitVec.ofInt k.bits b).toNat
abbrev iBclr (k:IntKind) (a b:(Ty.int k).den):(Ty.int k).den:=k.wrap (BitVec.ofInt k.bits a &&& ~~~ BitVec.ofInt k.bits b).toNat
abbrev iShl (k k':IntKind) (a:(Ty.int k).den) (b:(Ty.int k').den):(Ty.int k).den:=k.wrap ((show Int from a)*2 ^ (min (Int.toNat b) k.bits))
abbrev iShr (k k':IntKind) (a:(Ty.int k).den) (b:(Ty.int k').den):(Ty.int k).den:=Int.fdiv a (2 ^ (min (Int.toNat b) k.bits))
abbrev iEq {k:IntKind} (a b:(Ty.int k).den):BoolD:=(show Int from a)==b
abbrev iNe {k:IntKind} (a b:(Ty.int k).den):BoolD:=(show Int from a) !=b
abbrev iLt {k:IntKind} (a b:(Ty.int k).den):BoolD:=decide ((show Int from a)<b)
abbrev iLe {k:IntKind} (a b:(Ty.int k).den):BoolD:=decide ((show Int from a)≤b)
abbrev iGt {k:IntKind} (a b:(Ty.int k).den):BoolD:=decide ((show Int from a)>b)
abbrev iGe {k:IntKind} (a b:(Ty.int k).den):BoolD:=decide ((show Int from a)≥b)
abbrev iMin (k:IntKind) (a b:(Ty.int k).den):(Ty.int k).den:=if (show Int from b)<a then b else a
abbrev iMax (k:IntKind) (a b:(Ty.int k).den):(Ty.int k).den:=if (show Int from a)<b then b else a
abbrev iSame {k k':IntKind} (a:(Ty.int k).den) (b:(Ty.int k').den):BoolD:=(show Int from a)==(show Int from b)
abbrev iSmall {k:IntKind} (bytes:Nat) (a:(Ty.int k).den):BoolD:=decide ((bytes:Int)*(show Int from a)≤281474976710656)
abbrev bSame (a b:Ty.bool.den):BoolD:=(show Bool from a)==(show Bool from b)
abbrev sEq (a b:Ty.str.den):BoolD:=(show ByteArray from a)==(show ByteArray from b)
abbrev sLen (a:Ty.str.den):NatD:=(show ByteArray from a).size
abbrev sCut (a:Ty.str.den) (lo hi:NatD):Ty.str.den:=(show ByteArray from a).extract lo hi
abbrev sAt (a:Ty.str.den) (i:NatD):(Ty.int .u8).den:=(((show ByteArray from a)[i]?).getD 0).toNat
def Ty.flat:Ty→Bool
 | .int _=>true
 | .bool=>true
 | .str=>true
 | .unit=>true
 | .prod a b=>a.flat && b.flat
 | .row t=>t.flat
 | _=>false
def Ty.beq:(t:Ty)→t.den→t.den→Bool
 | .int _,a,b=>(show Int from a)==b
 | .bool,a,b=>(show Bool from a)==b
 | .str,a,b=>(show ByteArray from a)==b
 | .prod s t,a,b=>Ty.beq s a.1 b.1 && Ty.beq t a.2 b.2
 | .row t,a,b=>Ty.beq t a b
 | _,_,_=>true
def mapHas {k v:Ty} (L:(Ty.fl (.prod k v)).den) (x:k.den):BoolD:=List.any L fun p=>Ty.beq k x p.1
def mapGet {k v:Ty} :(Ty.fl (.prod k v)).den→k.den→v.den→v.den
 | [],_,d=>d
 | p::l,x,d=>bif Ty.beq k x p.1 then p.2 else mapGet l x d
def mapPut {k v:Ty} :(Ty.fl (.prod k v)).den→k.den→v.den→(Ty.fl (.prod k v)).den
 | [],x,y=> [(x,y)]
 | p::l,x,y=>bif Ty.beq k x p.1 then (x,y)::l else p::mapPut l x y
def mapDel {k v:Ty} :(Ty.fl (.prod k v)).den→k.den→(Ty.fl (.prod k v)).den
 | [],_=> []
 | p::l,x=>bif Ty.beq k x p.1 then l else p::mapDel l x
def sOfL (l:(Ty.fl (.int .u8)).den):Ty.str.den:=ByteArray.mk ((l:List Int).map fun n=>UInt8.ofNat n.toNat).toArray
@[reducible] def HL:List Ty→Type
 | []=>Unit
 | t::ts=>t.den × HL ts
def HL.dflt:(ts:List Ty)→HL ts
 | []=>()
 | t::ts=>(t.dflt,HL.dflt ts)
def iterN {σ ρ:Type} (step:σ→Bool × Bool × σ × ρ):Nat→σ→Option ρ
 | 0,_=>none
 | n+1,x=>match step x with
  | (false,_)=>none
  | (true,true,y,_)=>iterN step n y
  | (true,false,_,r)=>some r
open Classical in
noncomputable def loopR {σ ρ:Type} (d:ρ) (step:σ→Bool × Bool × σ × ρ) (x:σ):Bool × ρ:=
 if h:∃ r n,iterN step n x=some r then (true,h.choose) else (false,d)
theorem iterN_more {σ ρ:Type} {step:σ→Bool × Bool × σ × ρ} :∀ {n:Nat} {x:σ} {r:ρ},iterN step n x=some r→∀ m,n≤m→iterN step m x=some r
 | 0,x,r,h,_,_=>by simp [iterN] at h
 | n+1,x,r,h,0,hm=>by omega
 | n+1,x,r,h,m+1,hm=>by
  simp only [iterN] at h ⊢
  split at h
  ·cases h
  ·exact iterN_more h m (by omega)
  ·exact h
theorem iterN_fun {σ ρ:Type} {step:σ→Bool × Bool × σ × ρ} {n m:Nat} {x:σ} {r r':ρ} (h:iterN step n x=some r) (h':iterN step m x=some r'):r=r':=by
 have h1:=iterN_more h (max n m) (Nat.le_max_left _ _)
 have h2:=iterN_more h' (max n m) (Nat.le_max_right _ _)
 rw [h1] at h2
 exact Option.some.inj h2
theorem loopR_of {σ ρ:Type} {d:ρ} {step:σ→Bool × Bool × σ × ρ} {x:σ} {r:ρ} {n:Nat} (h:iterN step n x=some r):loopR d step x=(true,r):=by
 unfold loopR
 have hex:∃ r n,iterN step n x=some r:=⟨r,n,h⟩
 rw [dif_pos hex]
 obtain ⟨m,hm⟩:=hex.choose_spec
 rw [iterN_fun hm h]
theorem loopR_iter {σ ρ:Type} {d:ρ} {step:σ→Bool × Bool × σ × ρ} {x:σ} (h:(loopR d step x).1=true):∃ n,iterN step n x=some (loopR d step x).2:=by
 unfold loopR at h ⊢
 split
 ·rename_i hex; exact hex.choose_spec
 ·rename_i hex; rw [dif_neg hex] at h; cases h
theorem loopR_go {σ ρ:Type} {d:ρ} {step:σ→Bool × Bool × σ × ρ} {x y:σ} {r:ρ} (h:step x=(true,true,y,r)):loopR d step x=loopR d step y:=by
 by_cases hex:∃ r n,iterN step n y=some r
 ·obtain ⟨r',n,hn⟩:=hex
  rw [loopR_of (d:=d) hn]
  exact loopR_of (n:=n+1) (by simp only [iterN,h]; exact hn)
 ·have hx:¬ ∃ r n,iterN step n x=some r:=by
   rintro ⟨r',n,hn⟩
   cases n with
   | zero=>simp [iterN] at hn
   | succ n=>simp only [iterN,h] at hn; exact hex ⟨r',n,hn⟩
  unfold loopR
  rw [dif_neg hex,dif_neg hx]
theorem loopR_end {σ ρ:Type} {d:ρ} {step:σ→Bool × Bool × σ × ρ} {x y:σ} {r:ρ} (h:step x=(true,false,y,r)):loopR d step x=(true,r):=
 loopR_of (n:=1) (by simp only [iterN,h])
noncomputable abbrev loopD (tag:Nat) (σ ρ:List Ty) (step:HL σ→BoolD × BoolD × HL σ × HL ρ) (x:HL σ):BoolD × HL ρ:=loopR (HL.dflt ρ) step x
end Go.Tm

namespace Go.Tm
open Go.Vm
set_option linter.unusedVariables false
def Ty.size:Ty→Nat
 | .int _=>1
 | .bool=>1
 | .str=>1
 | .nat=>0
 | .unit=>0
 | .prod a b=>a.size+b.size
 | .arr n t=>n*t.size
 | .fl _=>1
 | .row t=>t.size
def Ty.isRow:Ty→Bool
 | .arr .. =>true
 | .row _=>true
 | _=>false
inductive Step where
 | U
 | L
 | R (k:Nat)
 | ix (i:NatD) (sz:Nat)
def soff:List Step→Nat
 | []=>0
 | .U::p=>soff p
 | .L::p=>soff p
 | .R k::p=>k+soff p
 | .ix _ _::p=>soff p
inductive T where
 | pure (t:Ty) (v:t.den)
 | cst (v:Value)
 | row (x:T)
 | pair (a b:T)
 | own (r sz:Nat)
 | sref (r sz:Nat) (lo n:NatD)
 | ptr (r:Nat) (p:List Step)
 | loc (t:Ty) (L:(Ty.fl t).den) (p:List Step)
 | fn (f:FuncId) (caps:T)
 | mref (r:Nat)
 | tup (xs:T)
 | may (g:BoolD) (x:T)
 | undef
 deriving Inhabited
inductive Rt where
 | var (ty:TypeId) (x:T)
 | arr (t:Ty) (L:(Ty.fl t).den) (fz:Bool)
 | map (k v:Ty) (L:(Ty.fl (.prod k v)).den)
 | gone
 deriving Inhabited
def Rt.alive:Rt→Bool
 | .gone=>false
 | _=>true
inductive G where
 | tt
 | ff
 | of (b:BoolD)
 deriving Inhabited
def G.val:G→BoolD
 | .tt=>bLit true
 | .ff=>bLit false
 | .of b=>b
def G.and:G→G→G
 | .tt,h=>h
 | .ff,_=>.ff
 | g,.tt=>g
 | _,.ff=>.ff
 | .of a,.of b=>.of (bAnd a b)
def G.or:G→G→G
 | .tt,_=>.tt
 | .ff,h=>h
 | g,.ff=>g
 | _,.tt=>.tt
 | .of a,.of b=>.of (bOr a b)
def G.not:G→G
 | .tt=>.ff
 | .ff=>.tt
 | .of a=>.of (bNot a)
def G.ite (c:BoolD):G→G→G
 | .tt,.tt=>.tt
 | .ff,.ff=>.ff
 | .tt,.ff=>.of c
 | .ff,.tt=>.of (bNot c)
 | g,h=>.of (bIte c g.val h.val)
def Rt.mem:Rt→Bool
 | .var .. =>true
 | .arr .. =>true
 | _=>false
def Rt.isFz:Rt→Bool
 | .arr _ _ fz=>fz
 | _=>false
structure HE where
 g:G
 rt:Rt
 deriving Inhabited
structure St where
 sl:List (Nat × T)
 hp:List (Nat × HE)
 nx:Nat
 deriving Inhabited
def look {α:Type} :List (Nat × α)→Nat→Option α
 | [],_=>none
 | (j,x)::l,i=>bif Nat.beq j i then some x else look l i
def St.slot (s:St) (t:Nat):T:=(look s.sl t).getD .undef
def St.root (s:St) (r:Nat):HE:=(look s.hp r).getD ⟨.ff,.gone⟩
def St.put (s:St) (dst:Option Tmp) (x:T):St:=match dst with | some t=> {s with sl:=(t,x)::s.sl} | none=>s
def St.keep (s:St) (r:Nat) (g:G) (x:Rt):St:= {s with hp:=(r,⟨g,x⟩)::s.hp}
def T.size:T→Nat
 | .pure t _=>t.size
 | .cst v=>v.cells.size
 | .row x=>x.size
 | .pair a b=>a.size+b.size
 | .own .. =>1
 | .sref .. =>1
 | .ptr .. =>1
 | .loc .. =>1
 | .fn .. =>1
 | .mref _=>1
 | _=>0
def T.solid:T→Bool
 | .pure .. =>true
 | .cst v=>litOk v
 | .row x=>x.solid
 | .pair a b=>a.solid && b.solid
 | .own .. =>true
 | .sref .. =>true
 | .ptr .. =>true
 | .loc .. =>true
 | .fn _ x=>x.solid
 | .mref _=>true
 | _=>false
def T.isRow:T→Bool
 | .pure t _=>t.isRow
 | .row _=>true
 | .cst (.agg _)=>true
 | _=>false
def T.mkPair:T→T→T
 | .pure a x,.pure b y=>.pure (.prod a b) (dMk x y)
 | a,b=>.pair a b
def closeArr (t:Ty):(u:Ty)→u.den→Option (List t.den)
 | .unit,_=>some []
 | .prod a b,v=>if h:a=t then (match closeArr t b (dSnd v) with | some l=>some (castD h (dFst v)::l) | none=>none) else none
 | _,_=>none
def T.mkRow:T→T
 | .pure (.prod a b) v=>match closeArr a (.prod a b) v with
  | some l=>.pure (.arr l.length a) (aOf l.length l)
  | none=>.pure (.row (.prod a b)) (toRow v)
 | .pure t v=>.pure (.row t) (toRow v)
 | x=>.row x
def T.split:T→Option (T × T)
 | .pure (.prod a b) v=>some (.pure a (dFst v),.pure b (dSnd v))
 | .pair a b=>some (a,b)
 | _=>none
def Ty.holds:Ty→Bool
 | .fl _=>true
 | .prod a b=>a.holds || b.holds
 | .arr _ t=>t.holds
 | .row t=>t.holds
 | _=>false
def openArr {n:Nat} {t:Ty} (f:(Ty.arr n t).den):Nat→Nat→T
 | _,0=>.pure .unit vUnit
 | i,k+1=>.pair (.pure t (aGet f (nLit i))) (openArr f (i+1) k)
def T.unrow:T→Option T
 | .pure (.row t) v=>some (.pure t (ofRow v))
 | .pure (.arr n t) f=>if (Nat.ble 1 n && (Nat.ble n 4 && t.holds))=true then some (openArr f 0 n) else none
 | .row x=>some x
 | _=>none
def T.ofList:List T→T
 | []=>.pure .unit vUnit
 | x::l=>.pair x (ofList l)
def T.toList:T→List T
 | .pair x l=>x::l.toList
 | _=> []
def T.isNilSlice:T→Bool
 | .cst (.slice none 0 0)=>true
 | _=>false
def sameNil:Value→Value→Bool
 | .slice none 0 0,.slice none 0 0=>true
 | .pointer none,.pointer none=>true
 | .map none,.map none=>true
 | .nilFunc,.nilFunc=>true
 | .nilIface,.nilIface=>true
 | _,_=>false
def T.get:T→List Step→Option (G × T)
 | x,[]=>some (.tt,x)
 | x,.U::p=>match x.unrow with | some y=>y.get p | none=>none
 | x,.L::p=>match x.split with | some (a,_)=>a.get p | none=>none
 | x,.R k::p=>match x.split with | some (a,b)=>bif Nat.beq a.size k then b.get p else none | none=>none
 | x,.ix i sz::p=>match x with
  | .pure (.arr n t) f=>bif Nat.beq t.size sz then match (T.pure t (aGet f i)).get p with | some (g,y)=>some (.and (.of (nLt i (nLit n))) g,y) | none=>none else none
  | _=>none
def T.set:T→List Step→T→Option (G × T)
 | x,[],y=>bif Nat.beq x.size y.size && (x.isRow==y.isRow) then some (.tt,y) else none
 | x,.U::p,y=>match x.unrow with | some x'=>(match x'.set p y with | some (g,z)=>some (g,z.mkRow) | none=>none) | none=>none
 | x,.L::p,y=>match x.split with | some (a,b)=>(match a.set p y with | some (g,z)=>some (g,z.mkPair b) | none=>none) | none=>none
 | x,.R k::p,y=>match x.split with | some (a,b)=>(bif Nat.beq a.size k then match b.set p y with | some (g,z)=>some (g,a.mkPair z) | none=>none else none) | none=>none
 | x,.ix i sz::p,y=>match x with
  | .pure (.arr n t) f=>bif Nat.beq t.size sz then match (T.pure t (aGet f i)).set p y with
    | some (g,.pure t' v)=>if h:t'=t then some (.and (.of (nLt i (nLit n))) g,.pure (.arr n t) (aSet f i (castD h v))) else none
    | _=>none
   else none
  | _=>none
def mergeP (c:BoolD):List Step→List Step→Option (List Step)
 | [],[]=>some []
 | .U::p,.U::q=>(mergeP c p q).map (Step.U::·)
 | .L::p,.L::q=>(mergeP c p q).map (Step.L::·)
 | .R k::p,.R k'::q=>bif Nat.beq k k' then (mergeP c p q).map (Step.R k::·) else none
 | .ix i sz::p,.ix i' sz'::q=>bif Nat.beq sz sz' then (mergeP c p q).map (Step.ix (nIte c i i') sz::·) else none
 | _,_=>none
def mergeT (c:BoolD):Nat→T→T→T
 | 0,_,_=>.undef
 | d+1,a,b=>match a,b with
  | .pure t x,.pure t' y=>if h:t'=t then .pure t (tIte t c x (castD h y)) else .undef
  | .may g x,.may g' y=>.may (bIte c g g') (mergeT c d x y)
  | .may g x,y=>.may (bIte c g (bLit true)) (mergeT c d x y)
  | x,.may g y=>.may (bIte c (bLit true) g) (mergeT c d x y)
  | .cst v,.cst v'=>if sameNil v v' then .cst v else .undef
  | .cst (.slice none 0 0),.pure (.fl t) L=>.pure (.fl t) (tIte (.fl t) c lNil L)
  | .pure (.fl t) L,.cst (.slice none 0 0)=>.pure (.fl t) (tIte (.fl t) c L lNil)
  | .own r sz,.own r' sz'=>bif Nat.beq r r' && Nat.beq sz sz' then .own r sz else .undef
  | .sref r sz lo n,.sref r' sz' lo' n'=>bif Nat.beq r r' && Nat.beq sz sz' then .sref r sz (nIte c lo lo') (nIte c n n') else .undef
  | .ptr r p,.ptr r' p'=>match bif Nat.beq r r' then mergeP c p p' else none with | some q=>.ptr r q | none=>.undef
  | .mref r,.mref r'=>bif Nat.beq r r' then .mref r else .undef
  | .fn f x,.fn f' y=>bif Nat.beq f f' && (mergeT c d x y).solid then .fn f (mergeT c d x y) else .undef
  | x,y=>match x.unrow,y.unrow with
   | some x',some y'=>(mergeT c d x' y').mkRow
   | _,_=>match x.split,y.split with
    | some (x1,x2),some (y1,y2)=>(mergeT c d x1 y1).mkPair (mergeT c d x2 y2)
    | _,_=>.undef
def depth:Nat:=60
def mergeRt (c:BoolD):Rt→Rt→Rt
 | .var ty x,.var ty' y=>match mergeT c depth x y with | .undef=>.gone | z=>bif z.solid && Nat.beq ty ty' then .var ty z else .gone
 | .arr t L fz,.arr t' L' fz'=>if h:Ty.fl t'=.fl t then .arr t (tIte (.fl t) c L (castD h L')) (fz || fz') else .gone
 | .map k v L,.map k' v' L'=>if h:Ty.fl (.prod k' v')=.fl (.prod k v) then .map k v (tIte (.fl (.prod k v)) c L (castD h L')) else .gone
 | _,_=>.gone
def mergeHE (c:BoolD):HE→HE→HE
 | ⟨ga,.gone⟩,⟨gb,.gone⟩=>⟨.ff,.gone⟩
 | ⟨ga,a⟩,⟨gb,.gone⟩=>⟨.and ga (.of c),a⟩
 | ⟨ga,.gone⟩,⟨gb,b⟩=>⟨.and gb (.of (bNot c)),b⟩
 | ⟨ga,a⟩,⟨gb,b⟩=>⟨G.ite c ga gb,mergeRt c a b⟩
def keysOf {α:Type} (l:List (Nat × α)):List Nat:=l.foldr (fun x acc=>bif acc.elem x.1 then acc else x.1::acc) []
def fresh {α:Type} (l:List α) (n:Nat):List α:=l.take (l.length - n)
def toArr {α:Type} (f:T→Option (G × α × List Nat)):Nat→T→Option (G × List α × List Nat)
 | 0,.pure .unit _=>some (.tt,[],[])
 | 0,_=>none
 | k+1,y=>match y.split with
  | some (a,b)=>match f a,toArr f k b with
   | some (g,v,l),some (g',vs,l')=>some (.and g g',v::vs,l++l')
   | _,_=>none
  | none=>none
def toPure (s:St):Nat→(t:Ty)→T→Option (G × t.den × List Nat)
 | 0,_,_=>none
 | d+1,t,x=>match x with
  | .pure t' v=>if h:t'=t then some (.tt,castD h v,[]) else none
  | .cst (.slice none 0 0)=>match t with | .fl _=>some (.tt,lNil,[]) | _=>none
  | .cst (.slice (some _) 0 _)=>match t with | .fl _=>some (.tt,lNil,[]) | _=>none
  | .own r sz=>match t with
   | .fl t=>match s.root r with
    | ⟨g,.arr t' L _⟩=>if h:Ty.fl t'=.fl t then some (g,castD h L,[r]) else none
    | _=>none
   | _=>none
  | .sref r sz lo n=>match t with
   | .fl t=>match s.root r with
    | ⟨g,.arr t' L _⟩=>if h:Ty.fl t'=.fl t then (bif Nat.beq sz t'.size then some (g,lTake n (lDrop lo (castD h L)),[r]) else none) else none
    | _=>none
   | _=>none
  | .row y=>match t with
   | .row t=>match toPure s d t y with | some (g,v,l)=>some (g,toRow v,l) | none=>none
   | .arr n t=>match toArr (toPure s d t) n y with | some (g,vs,l)=>some (g,aOf n vs,l) | none=>none
   | _=>none
  | .pair y z=>match t with
   | .prod a b=>match toPure s d a y,toPure s d b z with
    | some (g,v,l),some (g',v',l')=>some (.and g g',dMk v v',l++l')
    | _,_=>none
   | _=>none
  | _=>none
def adaptT (sa sb:St):Nat→T→T→Nat→T × List Nat × List Ty
 | 0,x,_,n=>(x,[],[])
 | d+1,x,y,n=>match x,y with
  | .cst (.slice none 0 0),.own r sz=>match sb.root r with
   | ⟨_,.arr t _ _⟩=>if Nat.blt 0 t.size=true then (.own n sz,[],[t]) else (x,[],[])
   | _=>(x,[],[])
  | .cst (.slice none 0 0),.sref r sz _ _=>match sb.root r with
   | ⟨_,.arr t _ _⟩=>if Nat.blt 0 t.size=true then (.sref n sz (nLit 0) (nLit 0),[],[t]) else (x,[],[])
   | _=>(x,[],[])
  | .own r sz,.pure (.fl _) _=>match sa.root r with
   | ⟨.tt,.arr t L fz⟩=>(.pure (.fl t) L,[r],[])
   | _=>(x,[],[])
  | .cst (.slice none 0 0),.pure (.fl t) _=>(.pure (.fl t) lNil,[n],[])
  | .own r sz,.sref _ _ _ _=>match sa.root r with
   | ⟨.tt,.arr t L _⟩=>(.sref r sz (nLit 0) (lLen L),[n],[])
   | _=>(x,[],[])
  | .row x',.pure (.arr m t) _=>match toPure sa d (.arr m t) (.row x') with
   | some (.tt,v,l)=>(.pure (.arr m t) v,l++ [n],[])
   | _=>(x,[],[])
  | .may g x',.may _ y'=>match adaptT sa sb d x' y' n with | (z,l)=>(.may g z,l)
  | .may g x',y'=>match adaptT sa sb d x' y' n with | (z,l)=>(.may g z,l)
  | x',.may _ y'=>adaptT sa sb d x' y' n
  | .sref r sz lo n0,.pure (.fl t) _=>match toPure sa d (.fl t) (.sref r sz lo n0) with
   | some (.tt,v,l)=>(.pure (.fl t) v,l++ [n],[])
   | _=>(x,[],[])
  | .own r sz,.own r' _=>match sa.root r,sb.root r' with
   | ⟨.tt,.arr _ _ false⟩,⟨_,.arr _ _ true⟩=>(.own r sz,[r],[])
   | _,_=>(x,[],[])
  | .sref r sz lo n0,.sref r' _ _ _=>match sa.root r,sb.root r' with
   | ⟨.tt,.arr _ _ false⟩,⟨_,.arr _ _ true⟩=>(.sref r sz lo n0,[r],[])
   | _,_=>(x,[],[])
  | x,y=>match x.unrow,y.unrow with
   | some x',some y'=>match adaptT sa sb d x' y' n with
    | (_,[],[])=>(x,[],[])
    | (z,l)=>(z.mkRow,l)
   | _,_=>match x.split,y.split with
    | some (x1,x2),some (y1,y2)=>match adaptT sa sb d x1 y1 n with
     | (z1,f1,t1)=>match adaptT sa sb d x2 y2 (n+t1.length) with
      | (z2,f2,t2)=>(z1.mkPair z2,f1++f2,t1++t2)
    | _,_=>(x,[],[])
def frzRt:Rt→Rt
 | .arr t L _=>.arr t L true
 | x=>x
def frzs0 (s:St):List Nat→St
 | []=>s
 | r::l=>(frzs0 s l).keep r (s.root r).g (frzRt (s.root r).rt)
def frzs (s:St) (l:List Nat):St:=frzs0 s (l.filter fun r=> !(s.root r).rt.isFz)
def addNils (s:St):Nat→List Ty→St
 | _,[]=>s
 | n,t::l=>addNils (s.keep n .tt (.arr t lNil false)) (n+1) l
def T.core:T→T
 | .may _ x=>x
 | x=>x
def T.again:T→T→T
 | .may g _,z=>.may g z
 | _,z=>z
def adaptSlots (b:St):List Nat→St→Nat→St × Nat
 | [],a,n=>(a,n)
 | k::ks,a,n=>if (a.slot k).core.solid=true then match adaptT a b depth (a.slot k).core (b.slot k).core n with
   | (_,[],[])=>adaptSlots b ks a n
   | (z,f,t)=>adaptSlots b ks ((addNils (frzs a f) n t).put (some k) ((a.slot k).again z)) (n+t.length+1)
  else adaptSlots b ks a n
def adaptRoots (b:St):List Nat→St→Nat→St × Nat
 | [],a,n=>(a,n)
 | r::rs,a,n=>match a.root r,b.root r with
  | ⟨g,.var ty x⟩,⟨_,.var _ y⟩=>match adaptT a b depth x y n with
   | (_,[],[])=>adaptRoots b rs a n
   | (z,f,t)=>if x.solid=true then adaptRoots b rs ((addNils (frzs a f) n t).keep r g (.var ty z)) (n+t.length+1) else adaptRoots b rs a n
  | _,_=>adaptRoots b rs a n
def pairsT:Nat→T→T→List (Nat × Nat)
 | 0,_,_=> []
 | d+1,x,y=>match x,y with
  | .own r _,.own r' _=>bif Nat.beq r r' then [] else [(r,r')]
  | .sref r _ _ _,.sref r' _ _ _=>bif Nat.beq r r' then [] else [(r,r')]
  | .ptr r _,.ptr r' _=>bif Nat.beq r r' then [] else [(r,r')]
  | .mref r,.mref r'=>bif Nat.beq r r' then [] else [(r,r')]
  | .may _ x',.may _ y'=>pairsT d x' y'
  | .may _ x',y'=>pairsT d x' y'
  | x',.may _ y'=>pairsT d x' y'
  | .tup x',.tup y'=>pairsT d x' y'
  | .fn _ x',.fn _ y'=>pairsT d x' y'
  | x,y=>match x.unrow,y.unrow with
   | some x',some y'=>pairsT d x' y'
   | _,_=>match x.split,y.split with
    | some (x1,x2),some (y1,y2)=>pairsT d x1 y1++pairsT d x2 y2
    | _,_=> []
def pairsRt (a b:St) (p:Nat × Nat):List (Nat × Nat):=match (a.root p.1).rt,(b.root p.2).rt with
 | .var _ x,.var _ y=>pairsT depth x y
 | _,_=> []
def once (l:List (Nat × Nat)):List (Nat × Nat):=l.foldl (fun acc p=>bif acc.any (fun q=>Nat.beq q.1 p.1 || Nat.beq q.2 p.2) then acc else acc++ [p]) []
def renT (f:Nat→Nat):T→T
 | .row x=>.row (renT f x)
 | .pair a b=>.pair (renT f a) (renT f b)
 | .own r sz=>.own (f r) sz
 | .sref r sz lo n=>.sref (f r) sz lo n
 | .ptr r p=>.ptr (f r) p
 | .fn g x=>.fn g (renT f x)
 | .mref r=>.mref (f r)
 | .tup x=>.tup (renT f x)
 | .may g x=>.may g (renT f x)
 | x=>x
def renRt (f:Nat→Nat):Rt→Rt
 | .var ty x=>.var ty (renT f x)
 | x=>x
def renHE (f:Nat→Nat) (h:HE):HE:=⟨h.g,renRt f h.rt⟩
def nameBy (m:List (Nat × Nat)) (r:Nat):Nat:=(look m r).getD r
def insN (x:Nat):List Nat→List Nat
 | []=> [x]
 | y::l=>bif Nat.ble x y then x::y::l else y::insN x l
def sortN (l:List Nat):List Nat:=l.foldr insN []
def joinPs (a b:St) (ks hs:List Nat):List (Nat × Nat × Nat):=
 let p0:=once (ks.flatMap (fun k=>pairsT depth (a.slot k) (b.slot k))++(sortN (hs.filter fun r=> !(pairsRt a b (r,r)).isEmpty)).flatMap fun r=>pairsRt a b (r,r))
 let p1:=once (p0++p0.flatMap (pairsRt a b))
 (List.range p1.length).zip p1
def nilJoin (a b:St) (n:Nat):T→T→Option T
 | .cst (.pointer none),.ptr r p=>if (Nat.blt r n && !(a.root r).rt.alive)=true then some (.ptr r p) else none
 | .ptr r p,.cst (.pointer none)=>if (Nat.blt r n && !(b.root r).rt.alive)=true then some (.ptr r p) else none
 | _,_=>none
def joinT (c:BoolD) (a b:St) (n:Nat) (x y:T):T:=match nilJoin a b n x y with
 | some z=>z
 | none=>mergeT c depth x y
def joinSt (c:BoolD) (s a b:St) (ks hs:List Nat) (n:Nat) (ps:List (Nat × Nat × Nat)):St:=
 let ra:=nameBy (ps.map fun x=>(x.2.1,n+x.1))
 let rb:=nameBy (ps.map fun x=>(x.2.2,n+x.1))
 let lost:=keysOf (ps.map (fun x=>(x.2.1,()))++ps.map (fun x=>(x.2.2,())))
 {sl:=ks.map (fun k=>(k,joinT c a b n (renT ra (a.slot k)) (renT rb (b.slot k))))++s.sl
  hp:=ps.map (fun x=>(n+x.1,mergeHE c (renHE ra (a.root x.2.1)) (renHE rb (b.root x.2.2))))++(lost.map (fun r=>(r,⟨.ff,.gone⟩))
   ++((hs.filter fun r=> !lost.elem r).map (fun r=>(r,mergeHE c (renHE ra (a.root r)) (renHE rb (b.root r))))++s.hp))
  nx:=n+ps.length}
def mergeEnd (c:BoolD) (s a:St) (ks:List Nat) (z:St × Nat):St:=
 joinSt c s a z.1 ks (keysOf (fresh a.hp s.hp.length++fresh z.1.hp s.hp.length)) z.2 (joinPs a z.1 ks (keysOf (fresh a.hp s.hp.length++fresh z.1.hp s.hp.length)))
def mergeB2 (c:BoolD) (s a:St) (ks hs:List Nat):St × Nat→St
 | (b1,n3)=>mergeEnd c s a ks (adaptRoots a hs b1 n3)
def mergeB1 (c:BoolD) (s b0:St) (ks hs:List Nat):St × Nat→St
 | (a,n2)=>mergeB2 c s a ks hs (adaptSlots a ks b0 n2)
def mergeA2 (c:BoolD) (s b0:St) (ks hs:List Nat):St × Nat→St
 | (a1,n1)=>mergeB1 c s b0 ks hs (adaptRoots b0 hs a1 n1)
def mergeA1 (c:BoolD) (s a0 b0:St) (ks hs:List Nat):St:=mergeA2 c s b0 ks hs (adaptSlots b0 ks a0 (max a0.nx b0.nx))
def mergeSt (c:BoolD) (s:St) (a0 b0:St):St:=
 mergeA1 c s a0 b0 (keysOf (fresh a0.sl s.sl.length++fresh b0.sl s.sl.length)) (keysOf (fresh a0.hp s.hp.length++fresh b0.hp s.hp.length))
end Go.Tm

namespace Go.Tm
open Go.Vm
set_option linter.unusedVariables false
def tyDepth:Nat:=24
def prodOf:List Ty→Ty
 | []=>.unit
 | [t]=>t
 | t::ts=>.prod t (prodOf ts)
def tysOf (f:TypeId→Option Ty):List Field→Option (List Ty)
 | []=>some []
 | x::l=>match f x.type,tysOf f l with | some t,some ts=>some (t::ts) | _,_=>none
def tyOf (P:Program):Nat→TypeId→Option Ty
 | 0,_=>none
 | d+1,t=>match P.underlying t with
  | some (.int k)=>some (.int k)
  | some .bool=>some .bool
  | some .string=>some .str
  | some (.slice e)=>(tyOf P d e).map .fl
  | some (.array n e)=>(tyOf P d e).map (.arr n)
  | some (.struct fs)=>(tysOf (tyOf P d) fs.toList).map fun l=>.row (prodOf l)
  | _=>none
def ofMany {α:Type} (f:List Value→Option (α × List Value)):Nat→List Value→Option (List α × List Value)
 | 0,r=>some ([],r)
 | m+1,r=>match f r with
  | some (x,r1)=>match ofMany f m r1 with
   | some (l,r2)=>some (x::l,r2)
   | none=>none
  | none=>none
def cellInt (k:IntKind):List Value→Option ((Ty.int k).den × List Value)
 | .int k' z::r=>if k=k' then some (iLit k z,r) else none
 | _=>none
def cellBool:List Value→Option (Ty.bool.den × List Value)
 | .bool b::r=>some (ofB (bLit b),r)
 | _=>none
def cellStr:List Value→Option (Ty.str.den × List Value)
 | .string s::r=>some (sLit s,r)
 | _=>none
def cellNil (t:Ty):List Value→Option ((Ty.fl t).den × List Value)
 | .slice none 0 0::r=>some (lNil,r)
 | _=>none
def ofCells:(t:Ty)→List Value→Option (t.den × List Value)
 | .int k,r=>cellInt k r
 | .bool,r=>cellBool r
 | .str,r=>cellStr r
 | .unit,r=>some (vUnit,r)
 | .nat,_=>none
 | .fl t,r=>cellNil t r
 | .row t,r=>match ofCells t r with | some (x,r1)=>some (toRow x,r1) | none=>none
 | .prod a b,r=>match ofCells a r with
  | some (x,r1)=>match ofCells b r1 with
   | some (y,r2)=>some (dMk x y,r2)
   | none=>none
  | none=>none
 | .arr n t,r=>match ofMany (ofCells t) n r with
  | some (l,r2)=>some (aOf n l,r2)
  | none=>none
def pairsOf:List T→T
 | []=>.pure .unit vUnit
 | [x]=>x
 | x::l=>x.mkPair (pairsOf l)
def zeroFs (f:TypeId→List Value→Option T) (P:Program):List Field→List Value→Option (List T)
 | [],_=>some []
 | x::l,r=>match P.info? x.type with
  | some i=>match f x.type (r.take i.size),zeroFs f P l (r.drop i.size) with
   | some a,some b=>if Nat.beq a.size (r.take i.size).length=true then some (a::b) else none
   | _,_=>none
  | none=>none
def zeroT (P:Program):Nat→TypeId→List Value→Option T
 | 0,_,_=>none
 | d+1,t,cs=>match P.underlying t with
  | some (.struct fs)=>(zeroFs (zeroT P d) P fs.toList cs).map fun l=>(pairsOf l).mkRow
  | some (.array n e)=>match tyOf P tyDepth t with
   | some ty=>if (Nat.ble n 4 && ty.holds)=true then (zeroFs (zeroT P d) P (List.replicate n {(default:Field) with type:=e}) cs).map fun l=>(pairsOf (l++ [.pure .unit vUnit])).mkRow
    else match ofCells ty cs with | some (v,[])=>some (.pure ty v) | _=>none
   | none=>none
  | some _=>match cs with
   | [.int k z]=>some (.pure (.int k) (iLit k z))
   | [.bool b]=>some (.pure .bool (ofB (bLit b)))
   | [.string s]=>some (.pure .str (sLit s))
   | [v]=>bif v.oneCell' then some (.cst v) else none
   | _=>none
  | none=>none
def zeroOf (P:Program) (t:TypeId) (cs:List Value):Option T:=match zeroT P tyDepth t cs with
 | some x=>if Nat.beq x.size cs.length=true then some x else none
 | none=>none
def constT:Value→T
 | .int k z=>.pure (.int k) (iLit k z)
 | .bool b=>.pure .bool (ofB (bLit b))
 | .string s=>.pure .str (sLit s)
 | v=>.cst v
def asTy (P:Program) (t:TypeId):T→T
 | .cst (.agg cs)=>if litOk (.agg cs)=true then
   match tyOf P tyDepth t with
   | some ty=>match ofCells ty cs.toList with
    | some (v,[])=>if ty.isRow=true then .pure ty v else .cst (.agg cs)
    | _=>.cst (.agg cs)
   | none=>match zeroOf P t cs.toList with
    | some x=>if x.isRow=true then x else .cst (.agg cs)
    | none=>.cst (.agg cs)
  else .cst (.agg cs)
 | x=>x
def asMem (P:Program) (t:TypeId):T→T
 | .cst (.agg cs)=>if litOk (.agg cs)=true then
   match zeroOf P t cs.toList with
    | some x=>if x.isRow=true then x else .cst (.agg cs)
    | none=>.cst (.agg cs)
  else .cst (.agg cs)
 | x=>x
def T.unCst:T→T
 | .cst (.int k z)=>.pure (.int k) (iLit k z)
 | x=>x
def evl (s:St):Operand→T
 | .tmp t=>(s.slot t).unCst
 | .const v=>constT v
 | .global _=>.undef
 | .func f=>.fn f (.pure .unit vUnit)
def raw (s:St):Operand→T
 | .tmp t=>s.slot t
 | a=>evl s a
def T.need:T→G × T
 | .may g x=>(.of g,x)
 | x=>(.tt,x)
structure OpR where
 ok:G
 res:T
 up:List (Nat × HE)
 deriving Inhabited
def val (g:G) (x:T):Option OpR:=some ⟨g,x,[]⟩
def lenOf (s:St) (r:Nat):Option (G × NatD):=match s.root r with
 | ⟨g,.arr t L _⟩=>some (g,lLen L)
 | _=>none
def freezes0 (s:St) (l:List Nat):List (Nat × HE):=l.map fun r=>match s.root r with
 | ⟨g,.arr t L _⟩=>(r,⟨g,.arr t L true⟩)
 | h=>(r,h)
def freezes (s:St) (l:List Nat):List (Nat × HE):=freezes0 s (l.filter fun r=> !(s.root r).rt.isFz)
def binInt (op:BinOp) (k:IntKind) (a b:(Ty.int k).den):Option (G × T):=
 match op with
 | .add=>some (.tt,.pure (.int k) (iAdd k a b))
 | .sub=>some (.tt,.pure (.int k) (iSub k a b))
 | .mul=>some (.tt,.pure (.int k) (iMul k a b))
 | .quo=>some (.of (iNe0 b),.pure (.int k) (iQuo k a b))
 | .rem=>some (.of (iNe0 b),.pure (.int k) (iRem k a b))
 | .eql=>some (.tt,.pure .bool (ofB (iEq a b)))
 | .neq=>some (.tt,.pure .bool (ofB (iNe a b)))
 | .lss=>some (.tt,.pure .bool (ofB (iLt a b)))
 | .leq=>some (.tt,.pure .bool (ofB (iLe a b)))
 | .gtr=>some (.tt,.pure .bool (ofB (iGt a b)))
 | .geq=>some (.tt,.pure .bool (ofB (iGe a b)))
 | .and=>some (.tt,.pure (.int k) (iBand k a b))
 | .or=>some (.tt,.pure (.int k) (iBor k a b))
 | .xor=>some (.tt,.pure (.int k) (iBxor k a b))
 | .andNot=>some (.tt,.pure (.int k) (iBclr k a b))
 | _=>none
def shiftInt (op:BinOp) (k k':IntKind) (a:(Ty.int k).den) (b:(Ty.int k').den):Option (G × T):=
 match op with
 | .shl=>some (.of (iNonneg b),.pure (.int k) (iShl k k' a b))
 | .shr=>some (.of (iNonneg b),.pure (.int k) (iShr k k' a b))
 | _=>none
def eqP:(t:Ty)→t.den→t.den→Option BoolD
 | .int _,a,b=>some (iEq a b)
 | .bool,a,b=>some (bSame a b)
 | .str,a,b=>some (sEq a b)
 | .prod s t,a,b=>match eqP s (dFst a) (dFst b),eqP t (dSnd a) (dSnd b) with
  | some x,some y=>some (bAnd x y)
  | _,_=>none
 | .row t,a,b=>eqP t (ofRow a) (ofRow b)
 | .unit,_,_=>some (bLit true)
 | _,_,_=>none
def eqOks (P:Program) (f:TypeId→Bool) (g:TypeId→Option Ty):Nat→List Field→Bool
 | _,[]=>true
 | n,x::l=>(x.name != "_") && (Nat.beq x.offset n && (f x.type && match tinfo P x.type with
  | some (_,k)=>(match g x.type with | some ty=>Nat.beq ty.size k | none=>false) && eqOks P f g (n+k) l
  | none=>false))
def eqOk (P:Program):Nat→TypeId→Bool
 | 0,_=>false
 | d+1,t=>match P.underlying t with
  | some .bool=>true
  | some (.int _)=>true
  | some .string=>true
  | some (.struct fs)=> !P.stoodInHeld t && eqOks P (eqOk P d) (tyOf P d) 0 fs.toList
  | _=>false
def eqT (P:Program) (s:St) (t:TypeId) (x y:T):Option (G × BoolD):=
 match P.underlying t with
 | some .bool=>match x,y with
  | .pure .bool a,.pure .bool b=>some (.tt,bSame a b)
  | _,_=>none
 | some (.pointer _)=>match x,y with
  | .ptr r _,.cst (.pointer none)=>if (s.root r).rt.mem=true then some ((s.root r).g,bLit false) else none
  | .cst (.pointer none),.ptr r _=>if (s.root r).rt.mem=true then some ((s.root r).g,bLit false) else none
  | .cst (.pointer none),.cst (.pointer none)=>some (.tt,bLit true)
  | _,_=>none
 | some (.slice _)=>match x,y with
  | .cst (.slice (some _) _ _),.cst (.slice none 0 0)=>some (.tt,bLit false)
  | .cst (.slice none _ _),.cst (.slice none 0 0)=>some (.tt,bLit true)
  | .pure (.fl _) L,.cst (.slice none 0 0)=>some (.of (nLt (nLit 0) (lLen L)),bLit false)
  | _,_=>none
 | some (.struct _)=>if (!P.eqGuardType P.depth t && (eqOk P eqDepth t && (x.solid && (y.solid && (x.isRow && y.isRow)))))=true then match tyOf P eqDepth t with
   | some ty=>match toPure s depth ty x,toPure s depth ty y with
    | some (g,a,[]),some (g',b,[])=>match eqP ty a b with | some r=>some (.and g g',r) | none=>none
    | _,_=>none
   | none=>none
  else none
 | _=>none
def binT (P:Program) (s:St) (op:BinOp) (t:TypeId) (x y:T):Option (G × T):=
 match op,x,y with
 | .shl,.pure (.int k) a,.pure (.int k') b=>shiftInt .shl k k' a b
 | .shr,.pure (.int k) a,.pure (.int k') b=>shiftInt .shr k k' a b
 | op,.pure (.int k) a,.pure (.int k') b=>if h:Ty.int k'=.int k then binInt op k a (castD h b) else none
 | .eql,.pure .str a,.pure .str b=>some (.tt,.pure .bool (ofB (sEq a b)))
 | .neq,.pure .str a,.pure .str b=>some (.tt,.pure .bool (ofB (bNot (sEq a b))))
 | .eql,x,y=>match eqT P s t x y with | some (g,r)=>some (g,.pure .bool (ofB r)) | none=>none
 | .neq,x,y=>match eqT P s t x y with | some (g,r)=>some (g,.pure .bool (ofB (bNot r))) | none=>none
 | _,_,_=>none
def stepsTo (P:Program):List Field→Nat→Option (List Step)
 | [_],0=>some []
 | _::_,0=>some [.L]
 | f::l,i+1=>match P.info? f.type with
  | some x=>(stepsTo P l i).map (Step.R x.size::·)
  | none=>none
 | [],_=>none
def fieldSteps (P:Program) (s:TypeId) (i:Nat):Option (List Step):=match P.underlying s with
 | some (.struct fs)=>match stepsTo P fs.toList i,fs[i]? with
  | some p,some f=>match P.info? f.type with
   | some ie=>bif Nat.beq (soff p) f.offset && Nat.blt 0 ie.size then some (.U::p) else none
   | none=>none
  | _,_=>none
 | _=>none
def fieldTy (P:Program) (t:TypeId) (i:Nat):TypeId:=match Vm.fieldOf P t i with | some f=>f.type | none=>0
def sizeIs (P:Program) (t:TypeId) (x:T):Bool:=match tinfo P t with
 | some (agg,n)=>Nat.beq x.size n && ((x.isRow==agg) && (agg || Nat.beq n 1))
 | none=>false
def T.int? :T→Option (BoolD × NatD)
 | .pure (.int _) z=>some (iNonneg z,nOfI z)
 | .may g (.pure (.int _) z)=>some (bAnd g (iNonneg z),nOfI z)
 | _=>none
def loadT (s:St):T→Option (G × T)
 | .ptr r p=>match s.root r with
  | ⟨g,.var _ x⟩=>match x.get p with | some (g',y)=>some (.and g g',y) | none=>none
  | ⟨g,.arr t L _⟩=>match p with
   | .ix i sz::q=>bif Nat.beq sz t.size then match (T.pure t (lGet L i)).get q with | some (g',y)=>some (.and g (.and (.of (nLt i (lLen L))) g'),y) | none=>none else none
   | _=>none
  | _=>none
 | .loc t L p=>match p with
  | .ix i sz::q=>bif Nat.beq sz t.size then match (T.pure t (lGet L i)).get q with | some (g',y)=>some (.and (.of (nLt i (lLen L))) g',y) | none=>none else none
  | _=>none
 | _=>none
def storeT (s:St) (a y:T):Option (G × List (Nat × HE)):=match a with
 | .ptr r p=>match s.root r with
  | ⟨g,.var ty x⟩=>match x.set p y with
   | some (g',z)=>some (.and g g',[(r,⟨g,.var ty z⟩)])
   | none=>none
  | ⟨g,.arr t L false⟩=>match p with
   | .ix i sz::q=>if Nat.beq sz t.size=true then
     match (T.pure t (lGet L i)).get q with
     | some (_,.pure t1 _)=>match toPure s depth t1 y with
      | some (g1,v1,fz)=>match (T.pure t (lGet L i)).set q (.pure t1 v1) with
       | some (g',.pure t' v)=>if h:t'=t then if fz.elem r=true then none else some (.and g (.and g1 (.and (.of (nLt i (lLen L))) g')),(r,⟨g,.arr t (lSet L i (castD h v)) false⟩)::freezes s fz) else none
       | _=>none
      | none=>none
     | _=>none
    else none
   | _=>none
  | _=>none
 | _=>none
def elems (s:St) (t:Ty) (x:T):Option (G × (Ty.fl t).den):=(toPure s depth (.fl t) x).map fun (g,v,_)=>(g,v)
def zeroFits (ie:TypeInfo):Bool:=match ie.zero with | some z=>Nat.beq z.cells.size ie.size | none=>false
def T.from (r:Nat):T→Bool
 | .own q _=>Nat.beq q r
 | .sref q _ _ _=>Nat.beq q r
 | _=>false
def appendT (P:Program) (s:St) (fr:Nat) (t:TypeId) (x y:T):Option OpR:=
 match P.underlying t with
 | some (.slice e)=>match P.info? e,tyOf P tyDepth e with
  | some ie,some te=>if (Nat.beq te.size ie.size && (Nat.blt 0 ie.size && (Nat.blt 0 ie.bytes && zeroFits ie)))=true then
    match elems s te y with
    | some (g,M)=>match x with
     | .cst (.slice none 0 0)=>some ⟨.and g (.of (nFits (lLen M) ie.bytes)),.own fr te.size,[(fr,⟨.tt,.arr te M false⟩)]⟩
     | .own r sz=>match s.root r with
      | ⟨g',.arr t' L fz⟩=>if h:Ty.fl t'=.fl te then if Nat.beq sz te.size=true then some ⟨.and g (.and g' (.of (nFits (nAdd (lLen L) (lLen M)) ie.bytes))),.own fr te.size,[(fr,⟨g',.arr te (lApp (castD h L) M) fz⟩),(r,⟨.ff,.gone⟩)]⟩ else none else none
      | _=>none
     | .sref r sz lo n=>match s.root r with
      | ⟨g',.arr t' L fz⟩=>if h:Ty.fl t'=.fl te then if Nat.beq sz te.size=true then match fz with
        | true=>some ⟨.and g (.and g' (.and (.of (nEq (nAdd n lo) (lLen L))) (.of (nFits (nAdd n (lLen M)) ie.bytes)))),.own fr te.size,[(fr,⟨g',.arr te (lApp (lDrop lo (castD h L)) M) true⟩),(r,⟨.ff,.gone⟩)]⟩
        | false=>if y.from r=true then some ⟨.and g (.and g' (.of (nFits (nAdd n (lLen M)) ie.bytes))),.sref fr te.size (nLit 0) (nAdd n (lLen M)),[(fr,⟨g',.arr te (lApp (lTake n (lDrop lo (castD h L))) (lApp M (lDrop (nAdd (nAdd lo n) (lLen M)) (castD h L)))) false⟩),(r,⟨.ff,.gone⟩)]⟩
         else some ⟨.and g (.and g' (.of (nFits (nAdd n (lLen M)) ie.bytes))),.own fr te.size,[(fr,⟨g',.arr te (lApp (lTake n (lDrop lo (castD h L))) M) false⟩),(r,⟨.ff,.gone⟩)]⟩
       else none else none
      | _=>none
     | _=>none
    | none=>none
   else none
  | _,_=>none
 | _=>none
def clearT (P:Program) (s:St) (t:TypeId) (x:T):Option (G × List (Nat × HE)):=match P.underlying t with
 | some (.slice e)=>match P.info? e,tyOf P tyDepth e with
  | some ie,some te=>match ie.zero with
   | some z=>match ofCells te z.cells.toList with
    | some (zd,[])=>if (litOk z && (Nat.beq z.cells.size ie.size && Nat.beq te.size ie.size))=true then
      match x with
      | .sref r sz lo n=>match s.root r with
       | ⟨g,.arr t' L false⟩=>if h:Ty.fl t'=.fl te then if Nat.beq sz te.size=true then some (g,[(r,⟨g,.arr te (lPut lo (lRep n zd) (castD h L)) false⟩)]) else none else none
       | _=>none
      | _=>none
     else none
    | _=>none
   | none=>none
  | _,_=>none
 | _=>none
def copyT (P:Program) (s:St) (t:TypeId) (x y:T):Option (G × NatD × List (Nat × HE)):=match P.underlying t with
 | some (.slice e)=>match P.info? e,tyOf P tyDepth e with
  | some ie,some te=>if (Nat.beq te.size ie.size && Nat.blt 0 ie.size)=true then
    match elems s te y with
    | some (g,M)=>match x with
     | .sref r sz lo n=>match s.root r with
      | ⟨g',.arr t' L false⟩=>if h:Ty.fl t'=.fl te then if Nat.beq sz te.size=true then some (.and g g',nIte (nLt (lLen M) n) (lLen M) n,[(r,⟨g',.arr te (lPut lo (lTake n M) (castD h L)) false⟩)]) else none else none
      | _=>none
     | .own r sz=>match s.root r with
      | ⟨g',.arr t' L false⟩=>if h:Ty.fl t'=.fl te then if Nat.beq sz te.size=true then some (.and g g',nIte (nLt (lLen M) (lLen L)) (lLen M) (lLen L),[(r,⟨g',.arr te (lPut (nLit 0) (lTake (lLen L) M) (castD h L)) false⟩)]) else none else none
      | _=>none
     | _=>none
    | none=>none
   else none
  | _,_=>none
 | _=>none
def lenT (P:Program) (s:St) (t:TypeId) (x:T):Option (G × T):=match P.underlying t with
 | some (.slice _)=>match x with
  | .pure (.fl te) L=>some (.tt,.pure (.int .i64) (iOfN .i64 (lLen L)))
  | .cst (.slice none 0 0)=>some (.tt,.pure (.int .i64) (iLit .i64 0))
  | .own r _=>match s.root r with | ⟨g,.arr te L _⟩=>some (g,.pure (.int .i64) (iOfN .i64 (lLen L))) | _=>none
  | .sref r _ _ n=>if (s.root r).rt.mem=true then some ((s.root r).g,.pure (.int .i64) (iOfN .i64 n)) else none
  | _=>none
 | some .string=>match x with
  | .pure .str b=>some (.tt,.pure (.int .i64) (iOfN .i64 (sLen b)))
  | _=>none
 | _=>none
def cuts (n c:NatD) (lo hi mx:Option T):Option (G × NatD × NatD):=
 match lo.map T.int?,hi.map T.int?,mx.map T.int? with
 | none,none,none=>some (.tt,nLit 0,n)
 | some (some (p,l)),none,none=>some (.of (bAnd p (nLe l n)),l,nSub n l)
 | none,some (some (p,h)),none=>some (.of (bAnd p (nLe h c)),nLit 0,h)
 | some (some (p,l)),some (some (q,h)),none=>some (.of (bAnd (bAnd p q) (bAnd (nLe l h) (nLe h c))),l,nSub h l)
 | some (some (p,l)),some (some (q,h)),some (some (r,m))=>some (.of (bAnd (bAnd p (bAnd q r)) (bAnd (nLe l h) (bAnd (nLe h m) (nEq m c)))),l,nSub h l)
 | _,_,_=>none
def sliceT (P:Program) (s:St) (t:TypeId) (x:T) (lo hi mx:Option T):Option OpR:=
 match P.underlying t with
 | some (.slice e)=>match P.info? e with
  | some ie=>match x with
   | .pure (.fl te) L=>if (Nat.beq te.size ie.size && Nat.blt 0 ie.size)=true then match (if mx.isNone=true then cuts (lLen L) (lLen L) lo hi mx else none) with
     | some (g,l,n)=>val g (.pure (.fl te) (lTake n (lDrop l L)))
     | none=>none
    else none
   | .cst (.slice none 0 0)=>val .ff (.cst (.slice none 0 0))
   | .own r sz=>match s.root r with
    | ⟨g',.arr te L _⟩=>if (Nat.beq sz ie.size && (Nat.beq te.size ie.size && Nat.blt 0 ie.size))=true then match cuts (lLen L) (lLen L) lo hi mx with
      | some (g,l,n)=>val (.and g' g) (.sref r sz l n)
      | none=>none
     else none
    | _=>none
   | .sref r sz lo0 n0=>match s.root r with
    | ⟨g',.arr te L _⟩=>if (Nat.beq sz ie.size && (Nat.beq te.size ie.size && Nat.blt 0 ie.size))=true then match cuts n0 (nSub (lLen L) lo0) lo hi mx with
      | some (g,l,n)=>val (.and g' g) (.sref r sz (nAdd l lo0) n)
      | none=>none
     else none
    | _=>none
   | _=>none
  | none=>none
 | some .string=>match x with
  | .pure .str b=>match (if mx.isNone=true then cuts (sLen b) (sLen b) lo hi mx else none) with
   | some (g,l,n)=>val g (.pure .str (sCut b l (nAdd n l)))
   | none=>none
  | _=>none
 | _=>none
def indexAddrT (P:Program) (s:St) (t:TypeId) (x:T) (p0:BoolD) (i:NatD):Option (G × T):=
 match x with
 | .pure (.fl te) L=>match P.underlying t with
  | some (.slice e)=>match P.info? e with
   | some ie=>if Nat.beq te.size ie.size=true then some (.of (bAnd p0 (nLt i (lLen L))),.loc te L [.ix i te.size]) else none
   | none=>none
  | _=>none
 | .cst (.slice none 0 0)=>match P.underlying t with
  | some (.slice e)=>match tyOf P tyDepth e with
   | some te=>some (.ff,.loc te lNil [.ix i te.size])
   | none=>none
  | _=>none
 | .own r sz=>match s.root r with
  | ⟨g,.arr te L _⟩=>match P.underlying t with
   | some (.slice e)=>match P.info? e with
    | some ie=>if (Nat.beq sz ie.size && Nat.beq te.size ie.size)=true then some (.and g (.of (bAnd p0 (nLt i (lLen L)))),.ptr r [.ix i sz]) else none
    | none=>none
   | _=>none
  | _=>none
 | .sref r sz lo n=>match s.root r with
  | ⟨g,.arr te L _⟩=>match P.underlying t with
   | some (.slice e)=>match P.info? e with
    | some ie=>if (Nat.beq sz ie.size && Nat.beq te.size ie.size)=true then some (.and g (.of (bAnd p0 (nLt i n))),.ptr r [.ix (nAdd i lo) sz]) else none
    | none=>none
   | _=>none
  | _=>none
 | .ptr r p=>match P.underlying t with
  | some (.array n e)=>match P.info? e with
   | some ie=>if (s.root r).rt.mem=true then some (.and (s.root r).g (.of (bAnd p0 (nLt i (nLit n)))),.ptr r (p++ [.ix i ie.size])) else none
   | none=>none
  | _=>none
 | _=>none
def arrSteps (n k sz:Nat):List Step:=.U::(List.replicate k (.R sz)++ [.L])
def opIdx (s:St):Operand→Option Int
 | .const (.int _ z)=>some z
 | .tmp t=>match s.slot t with
  | .cst (.int _ z)=>some z
  | _=>none
 | _=>none
def isOpen:T→Bool
 | .row _=>true
 | .pure (.arr n t) _=>Nat.ble 1 n && (Nat.ble n 4 && t.holds)
 | _=>false
def openIdx (P:Program) (s:St) (t:TypeId) (x:T) (i:Operand):Option (G × T):=match x with
 | .ptr r p=>match P.underlying t,opIdx s i with
  | some (.array n e),some z=>match P.info? e,s.root r with
   | some ie,⟨g,.var _ y⟩=>match y.get p with
    | some (.tt,c)=>if (isOpen c && (decide ((0:Int)≤z) && Nat.blt z.toNat n))=true then some (g,.ptr r (p++arrSteps n z.toNat ie.size)) else none
    | _=>none
   | _,_=>none
  | _,_=>none
 | _=>none
def partAt (l:List (Nat × T)) (i:Nat):Option T:=look l i
def buildList (s:St) (t:Ty):Nat→List (Nat × T)→Option (G × (Ty.fl t).den × List Nat)
 | _,[]=>some (.tt,lNil,[])
 | k,(i,x)::l=>if Nat.beq i k=true then match toPure s depth t x,buildList s t (k+1) l with
   | some (g',v,fz'),some (g,L,fz)=>some (.and g' g,lCons v L,fz'++fz)
   | _,_=>none
  else none
def setFields (P:Program) (t:TypeId):List (Nat × T)→T→Option (G × T)
 | [],x=>some (.tt,x)
 | (i,y)::l,x=>match fieldSteps P t i with
  | some p=>match x.set p y with
   | some (g,z)=>match setFields P t l z with
    | some (g',z')=>some (.and g g',z')
    | none=>none
   | none=>none
  | none=>none
def needs (s:St) (P:Program) (ty:Nat→TypeId):List (Nat × Operand)→G × List (Nat × T)
 | []=>(.tt,[])
 | (i,x)::l=>match (evl s x).need,needs s P ty l with
  | (g,y),(g',l')=>(.and g g',(i,asTy P (ty i) y)::l')
def keyTy (P:Program) (kt:TypeId):Option Ty:=match tyOf P eqDepth kt,tinfo P kt with
 | some k,some (agg,n)=>if (k.flat && (eqOk P eqDepth kt && ((agg==k.isRow) && (Nat.beq n k.size && (k.isRow || Nat.beq k.size 1)))))=true then some k else none
 | _,_=>none
def mapTys (P:Program) (t:TypeId):Option (TypeId × TypeId × Ty × Ty):=match P.underlying t with
 | some (.map kt et)=>match keyTy P kt,tyOf P tyDepth et with
  | some k,some v=>if (v.isRow || Nat.beq v.size 1)=true then some (kt,et,k,v) else none
  | _,_=>none
 | _=>none
def zeroKind (z:Value) (v:Ty):Bool:=match z with
 | .agg _=>v.isRow
 | _=> !v.isRow
def commaOk:Bool→T→T→T
 | true,a,b=>.tup (T.ofList [a,b])
 | false,a,_=>a
def lookT (P:Program) (s:St) (t:TypeId) (m i:T):Option (G × (v:Ty) × v.den × BoolD):=match mapTys P t,m with
 | some (kt,et,k,v),.mref r=>match s.root r,toPure s depth k i,P.info? et with
  | ⟨g,.map k' v' L⟩,some (g',x,[]),some ie=>if h:Ty.fl (.prod k' v')=.fl (.prod k v) then match ie.zero with
    | some z=>match ofCells v z.cells.toList with
     | some (zd,[])=>if (litOk z && zeroKind z v)=true then some (.and g g',⟨v,mapGet (castD h L) x zd,mapHas (castD h L) x⟩) else none
     | _=>none
    | none=>none
   else none
  | _,_,_=>none
 | _,_=>none
def mapPutT (P:Program) (s:St) (t:TypeId) (m i y:T):Option (G × List (Nat × HE)):=match mapTys P t,m with
 | some (kt,et,k,v),.mref r=>match s.root r,toPure s depth k i,toPure s depth v y with
  | ⟨g,.map k' v' L⟩,some (g',x,[]),some (g2,b,fz)=>if h:Ty.fl (.prod k' v')=.fl (.prod k v) then
    some (.and g (.and g' g2),(r,⟨g,.map k v (mapPut (castD h L) x b)⟩)::freezes s fz) else none
  | _,_,_=>none
 | _,_=>none
def evOp (P:Program) (fr:Nat) (o:Oper) (s:St):Option OpR:=
 match o.op with
 | .move a=>val .tt (asTy P o.type (raw s a))
 | .assign a=>val .tt (asTy P o.type (evl s a))
 | .pick c a b=>match (evl s c).need with
  | (g,.pure .bool v)=>match (asTy P o.type (evl s a)).need,(asTy P o.type (evl s b)).need with
   | (ga,x),(gb,y)=>match mergeT (toB v) depth x y with
    | .undef=>none
    | z=>val (.and g (G.ite (toB v) ga gb)) z
  | _=>none
 | .box t x=>match (asMem P t (evl s x)).need with
  | (g,y)=>if (y.solid && (y.isRow || Nat.beq y.size 1))=true then some ⟨g,.ptr fr [],[(fr,⟨.tt,.var t y⟩)]⟩ else none
 | .alloc t=>match P.info? t with
  | some i=>match i.zero with
   | some z=>match zeroOf P t z.cells.toList with
    | some y=>if litOk z=true then some ⟨.tt,.ptr fr [],[(fr,⟨.tt,.var t y⟩)]⟩ else none
    | none=>none
   | none=>none
  | none=>none
 | .build t parts=>match P.info? t with
  | some i=>match i.zero with
   | some z=>match P.underlying t,(if litOk z=true then zeroOf P t z.cells.toList else none) with
    | some (.struct fs),some y=>match needs s P (fun i=>((fs[i]?).map (·.type)).getD 0) parts.toList with
     | (g,l)=>if (y.isRow && (fs.toList.all (fun f=>(P.info? f.type).isSome) && l.all fun x=>x.2.solid && sizeIs P (((fs[x.1]?).map (·.type)).getD 0) x.2))=true then match setFields P t l y with
      | some (g',z)=>val (.and g g') z
      | none=>none
      else none
    | some (.array _ e),some y=>if (Nat.beq parts.size 0 && (y.isRow && (P.info? e).isSome))=true then val .tt y else none
    | _,_=>none
   | none=>none
  | none=>none
 | .load t a=>match (evl s a).need with
  | (g,x)=>match loadT s x with
   | some (g',y)=>bif sizeIs P t y then val (.and g g') y else none
   | none=>none
 | .store t a x=>match (evl s a).need,(asMem P t (evl s x)).need with
  | (g,y),(g',z)=>if (z.solid && sizeIs P t z)=true then match storeT s y z with
   | some (g2,up)=>some ⟨.and g (.and g' g2),.undef,up⟩
   | none=>none
   else none
 | .nilCheck x=>match (evl s x).need with
  | (g,.ptr r p)=>if (s.root r).rt.mem=true then val (.and g (s.root r).g) (.ptr r p) else none
  | (g,.loc t L p)=>val g (.loc t L p)
  | _=>none
 | .binOp op t a b _=>match binT P s op t (asTy P t (evl s a)).need.2 (asTy P t (evl s b)).need.2 with
  | some (g2,z)=>val (.and (asTy P t (evl s a)).need.1 (.and (asTy P t (evl s b)).need.1 g2)) z
  | none=>none
 | .unOp op _ a=>match op,(evl s a).need with
  | .not,(g,.pure .bool b)=>val g (.pure .bool (ofB (bNot (toB b))))
  | .neg,(g,.pure (.int k) n)=>val g (.pure (.int k) (iNeg k n))
  | .xor,(g,.pure (.int k) n)=>val g (.pure (.int k) (iCpl k n))
  | _,_=>none
 | .convert src dst a=>match P.underlying src,P.underlying dst,(evl s a).need with
  | some _,some (.int k),(g,.pure (.int k') n)=>val g (.pure (.int k) (iConv k' k n))
  | some _,some .string,(g,.pure .str b)=>val g (.pure .str b)
  | some (.slice e),some .string,(g,.pure (.fl t) L)=>if h:t=.int .u8 then (match P.underlying e with | some (.int .u8)=>val g (.pure .str (sOfL (by subst h; exact L))) | _=>none) else none
  | some (.slice e),some (.slice _),(g,.own r _)=>match s.root r with
   | ⟨g',.arr t L false⟩=>if (Nat.beq src dst && Nat.beq t.size 1)=true then (match P.underlying e with | some (.int .u8)=>some ⟨.and g (.and g' (.of (nLt (nLit 0) (lLen L)))),.pure (.fl t) L,[(r,⟨.ff,.gone⟩)]⟩ | _=>none) else none
   | _=>none
  | some (.slice e),some .string,(g,.own r _)=>match s.root r with
   | ⟨g',.arr t L _⟩=>if h:t=.int .u8 then (match P.underlying e with | some (.int .u8)=>val (.and g g') (.pure .str (sOfL (by subst h; exact L))) | _=>none) else none
   | _=>none
  | _,_,_=>none
 | .makeFunc (.func f) first caps=>bif Nat.beq first.size 0 && (caps.toList.map (evl s)).all (fun x=>x.solid && (Nat.beq x.size 1 && !x.isRow)) then val .tt (.fn f (T.ofList (caps.toList.map (evl s)))) else none
 | .fieldAddr t a i=>match (evl s a).need,fieldSteps P t i with
  | (g,.ptr r p),some q=>if (s.root r).rt.mem=true then val (.and g (s.root r).g) (.ptr r (p++q)) else none
  | (g,.loc te L p),some q=>val g (.loc te L (p++q))
  | _,_=>none
 | .field t a i=>match fieldSteps P t i with
  | some q=>match (asTy P t (evl s a)).need.2.get q with
   | some (g',y)=>if (sizeIs P (fieldTy P t i) y=true∧(asTy P t (evl s a)).need.2.solid=true∧(asTy P t (evl s a)).need.2.isRow=true) then val (.and (asTy P t (evl s a)).need.1 g') y else none
   | none=>none
  | none=>none
 | .index t a i=>match (evl s i).need,P.underlying t with
  | (g',.pure (.int _) z),some (.array n e)=>match P.info? e with
   | some ie=>match (asTy P t (evl s a)).need.2.get [.ix (nOfI z) ie.size] with
    | some (g2,y)=>if (sizeIs P e y=true∧(asTy P t (evl s a)).need.2.solid=true∧(asTy P t (evl s a)).need.2.isRow=true) then
      val (.and (asTy P t (evl s a)).need.1 (.and g' (.and (.of (bAnd (iNonneg z) (nLt (nOfI z) (nLit n)))) g2))) y else none
    | none=>none
   | none=>none
  | (g',.pure (.int _) z),some .string=>match (evl s a).need with
   | (g,.pure .str b)=>val (.and g (.and g' (.of (bAnd (iNonneg z) (nLt (nOfI z) (sLen b)))))) (.pure (.int .u8) (sAt b (nOfI z)))
   | _=>none
  | _,_=>none
 | .indexAddr t a i=>match openIdx P s t (evl s a).need.2 i with
  | some (g2,y)=>val (.and (evl s a).need.1 g2) y
  | none=>match (evl s i).need with
  | (g',.pure (.int _) z)=>match indexAddrT P s t (evl s a).need.2 (iNonneg z) (nOfI z) with
   | some (g2,y)=>val (.and (evl s a).need.1 (.and g' g2)) y
   | none=>none
  | _=>none
 | .extract a i=>match (evl s a).need with
  | (g,.tup xs)=>match xs.toList[i]? with
   | some x=>if (x.solid && (x.isRow || Nat.beq x.size 1))=true then val g x else none
   | none=>none
  | _=>none
 | .buildSlice t len parts=>match P.underlying t with
  | some (.slice e)=>match P.info? e,tyOf P tyDepth e with
   | some ie,some te=>match ie.zero with
    | some z=>match needs s P (fun _=>e) parts.toList with
     | (g,l)=>if (litOk z && (Nat.beq z.cells.size ie.size && (Nat.beq te.size ie.size && ((te.isRow || Nat.beq te.size 1) && (Nat.blt 0 ie.size && (Nat.ble (len*ie.size) 16777216 && Nat.beq parts.toList.length len))))))=true then
       match buildList s te 0 l with
       | some (g',L,fz)=>some ⟨.and g g',.own fr te.size,(fr,⟨.tt,.arr te L false⟩)::freezes s fz⟩
       | none=>none
      else none
    | none=>none
   | _,_=>none
  | _=>none
 | .makeSlice t l c=>match P.underlying t,(evl s l).need,(evl s c).need with
  | some (.slice e),(g,.pure (.int _) n),(g',.pure (.int _) n')=>match P.info? e,tyOf P tyDepth e with
   | some ie,some te=>match ie.zero with
    | some z=>match ofCells te z.cells.toList with
     | some (zd,[])=>if (litOk z && (Nat.beq z.cells.size ie.size && (Nat.beq te.size ie.size && (Nat.blt 0 ie.size && Nat.blt 0 ie.bytes))))=true then
       some ⟨.and g (.and g' (.of (bAnd (iSame n n') (bAnd (iNonneg n) (iSmall ie.bytes n))))),.own fr te.size,[(fr,⟨.tt,.arr te (lRep (nOfI n) zd) false⟩)]⟩
      else none
     | _=>none
    | none=>none
   | _,_=>none
  | _,_,_=>none
 | .makeMap t none=>match mapTys P t with
  | some (_,_,k,v)=>some ⟨.tt,.mref fr,[(fr,⟨.tt,.map k v lNil⟩)]⟩
  | none=>none
 | .lookup t m i ok=>match P.underlying t with
  | some (.map kt _)=>match lookT P s t (evl s m).need.2 (asTy P kt (evl s i)).need.2 with
   | some (g',⟨v,x,b⟩)=>val (.and (evl s m).need.1 (.and (asTy P kt (evl s i)).need.1 g')) (commaOk ok (.pure v x) (.pure .bool (ofB b)))
   | none=>none
  | _=>none
 | .mapUpdate t m i x=>match P.underlying t with
  | some (.map kt et)=>match mapPutT P s t (evl s m).need.2 (asTy P kt (evl s i)).need.2 (asTy P et (evl s x)).need.2 with
   | some (g',up)=>some ⟨.and (evl s m).need.1 (.and (asTy P kt (evl s i)).need.1 (.and (asTy P et (evl s x)).need.1 g')),.undef,up⟩
   | none=>none
  | _=>none
 | .slice t x lo hi mx=>match sliceT P s t (evl s x).need.2 (lo.map (evl s)) (hi.map (evl s)) (mx.map (evl s)) with
  | some r=>some {r with ok:=.and (evl s x).need.1 r.ok}
  | none=>none
 | .call c=>match c.callee with
  | .builtin .append=>match c.args.toList,c.argTypes.toList with
   | [a,b],[t,t']=>if Nat.beq t t'=true then match appendT P s fr t (evl s a).need.2 (evl s b).need.2 with
     | some r=>some {r with ok:=.and (evl s a).need.1 (.and (evl s b).need.1 r.ok)}
     | none=>none
    else none
   | _,_=>none
  | .builtin .clear=>match c.args.toList,c.argTypes.toList with
   | [a],[t]=>match clearT P s t (evl s a).need.2 with
    | some (g',up)=>some ⟨.and (evl s a).need.1 g',.undef,up⟩
    | none=>none
   | _,_=>none
  | .builtin .copy=>match c.args.toList,c.argTypes.toList with
   | [a,b],[t,_]=>match copyT P s t (evl s a).need.2 (evl s b).need.2 with
    | some (g',n,up)=>some ⟨.and (evl s a).need.1 (.and (evl s b).need.1 g'),.pure (.int .i64) (iOfN .i64 n),up⟩
    | none=>none
   | _,_=>none
  | .builtin .len=>match c.args.toList,c.argTypes.toList with
   | [a],[t]=>match lenT P s t (evl s a).need.2 with
    | some (g',y)=>val (.and (evl s a).need.1 g') y
    | none=>none
   | _,_=>none
  | .builtin .min=>match c.args.toList with
   | [x,y]=>match (evl s x).need,(evl s y).need with
    | (g,.pure (.int k) a),(g',.pure (.int k') b)=>if h:Ty.int k'=.int k then val (.and g g') (.pure (.int k) (iMin k a (castD h b))) else none
    | _,_=>none
   | _=>none
  | .builtin .max=>match c.args.toList with
   | [x,y]=>match (evl s x).need,(evl s y).need with
    | (g,.pure (.int k) a),(g',.pure (.int k') b)=>if h:Ty.int k'=.int k then val (.and g g') (.pure (.int k) (iMax k a (castD h b))) else none
    | _,_=>none
   | _=>none
  | _=>none
 | _=>none
end Go.Tm

namespace Go.Tm
open Go.Vm
set_option linter.unusedVariables false
def stride:Nat:=64
structure Leaf where
 t:Ty
 v:t.den
def HL.leaves:(ts:List Ty)→HL ts→List Leaf
 | [],_=> []
 | t::ts,x=>⟨t,x.1⟩::HL.leaves ts x.2
def HL.of:(ts:List Ty)→List Leaf→Option (HL ts)
 | [],[]=>some ()
 | t::ts,⟨t',v⟩::l=>if h:t'=t then match HL.of ts l with | some r=>some (castD h v,r) | none=>none else none
 | _,_=>none
def leavesP:List Step→List Leaf
 | []=> []
 | .ix i _::p=>⟨.nat,ofN i⟩::leavesP p
 | _::p=>leavesP p
def T.leaves:T→List Leaf
 | .pure t v=> [⟨t,v⟩]
 | .row x=>x.leaves
 | .pair a b=>a.leaves++b.leaves
 | .sref _ _ lo n=> [⟨.nat,ofN lo⟩,⟨.nat,ofN n⟩]
 | .ptr _ p=>leavesP p
 | .loc t L p=>⟨.fl t,L⟩::leavesP p
 | .fn _ x=>x.leaves
 | .tup x=>x.leaves
 | .may g x=>⟨.bool,ofB g⟩::x.leaves
 | _=> []
def Rt.leaves:Rt→List Leaf
 | .var _ x=>x.leaves
 | .arr t L _=> [⟨.fl t,L⟩]
 | .map k v L=> [⟨.fl (.prod k v),L⟩]
 | .gone=> []
def plugP:List Step→List Leaf→Option (List Step × List Leaf)
 | [],l=>some ([],l)
 | .ix _ sz::p,⟨.nat,i⟩::l=>match plugP p l with | some (q,l')=>some (.ix (toN i) sz::q,l') | none=>none
 | .ix .. ::_,_=>none
 | s::p,l=>match plugP p l with | some (q,l')=>some (s::q,l') | none=>none
def T.plug:T→List Leaf→Option (T × List Leaf)
 | .pure t _,⟨t',v⟩::l=>if h:t'=t then some (.pure t (castD h v),l) else none
 | .row x,l=>match x.plug l with | some (y,l')=>some (.row y,l') | none=>none
 | .pair a b,l=>match a.plug l with | some (x,l1)=>(match b.plug l1 with | some (y,l2)=>some (.pair x y,l2) | none=>none) | none=>none
 | .sref r sz _ _,⟨.nat,lo⟩::⟨.nat,n⟩::l=>some (.sref r sz (toN lo) (toN n),l)
 | .ptr r p,l=>match plugP p l with | some (q,l')=>some (.ptr r q,l') | none=>none
 | .loc t _ p,⟨t',L⟩::l=>if h:t'=.fl t then match plugP p l with | some (q,l')=>some (.loc t (castD h L) q,l') | none=>none else none
 | .fn f x,l=>match x.plug l with | some (y,l')=>some (.fn f y,l') | none=>none
 | .tup x,l=>match x.plug l with | some (y,l')=>some (.tup y,l') | none=>none
 | .may _ x,⟨.bool,g⟩::l=>match x.plug l with | some (y,l')=>some (.may (toB g) y,l') | none=>none
 | .pure ..,_=>none
 | .sref ..,_=>none
 | .loc ..,_=>none
 | .may ..,_=>none
 | x,l=>some (x,l)
def Rt.plug:Rt→List Leaf→Option (Rt × List Leaf)
 | .var ty x,l=>match x.plug l with | some (y,l')=>some (.var ty y,l') | none=>none
 | .arr t _ fz,⟨t',L⟩::l=>if h:t'=.fl t then some (.arr t (castD h L) fz,l) else none
 | .arr ..,_=>none
 | .map k v _,⟨t',L⟩::l=>if h:t'=.fl (.prod k v) then some (.map k v (castD h L),l) else none
 | .map ..,_=>none
 | .gone,l=>some (.gone,l)
def plugTs:List T→List Leaf→Option (List T × List Leaf)
 | [],l=>some ([],l)
 | x::xs,l=>match x.plug l with | some (y,l1)=>(match plugTs xs l1 with | some (ys,l2)=>some (y::ys,l2) | none=>none) | none=>none
def plugRs:List (Nat × Rt)→List Leaf→Option (List (Nat × Rt) × List Leaf)
 | [],l=>some ([],l)
 | (k,x)::xs,l=>match x.plug l with | some (y,l1)=>(match plugRs xs l1 with | some (ys,l2)=>some ((k,y)::ys,l2) | none=>none) | none=>none
def likeP:List Step→List Step→Bool
 | [],[]=>true
 | .U::p,.U::q=>likeP p q
 | .L::p,.L::q=>likeP p q
 | .R k::p,.R k'::q=>Nat.beq k k' && likeP p q
 | .ix _ sz::p,.ix _ sz'::q=>Nat.beq sz sz' && likeP p q
 | _,_=>false
def T.like:T→T→Bool
 | .pure t _,.pure t' _=>decide (t'=t)
 | .cst v,.cst v'=>sameNil v v'
 | .row x,.row y=>x.like y
 | .pair a b,.pair c d=>a.like c && b.like d
 | .own r sz,.own r' sz'=>Nat.beq r r' && Nat.beq sz sz'
 | .sref r sz _ _,.sref r' sz' _ _=>Nat.beq r r' && Nat.beq sz sz'
 | .ptr r p,.ptr r' q=>Nat.beq r r' && likeP p q
 | .loc t _ p,.loc t' _ q=>decide (t'=t) && likeP p q
 | .fn f x,.fn f' y=>Nat.beq f f' && x.like y
 | .mref r,.mref r'=>Nat.beq r r'
 | .tup x,.tup y=>x.like y
 | .may _ x,.may _ y=>x.like y
 | .undef,.undef=>true
 | _,_=>false
def Rt.like:Rt→Rt→Bool
 | .var ty x,.var ty' y=>Nat.beq ty ty' && (x.like y && y.solid)
 | .arr t _ fz,.arr t' _ fz'=>decide (t'=t) && (!fz' || fz)
 | .map k v _,.map k' v' _=>decide (Ty.fl (.prod k' v')=.fl (.prod k v))
 | _,_=>false
def T.zipNames:T→T→List (Nat × Nat)
 | .row x,.row y=>x.zipNames y
 | .pair a b,.pair c d=>a.zipNames c++b.zipNames d
 | .own r _,.own r' _=> [(r,r')]
 | .sref r _ _ _,.sref r' _ _ _=> [(r,r')]
 | .ptr r _,.ptr r' _=> [(r,r')]
 | .mref r,.mref r'=> [(r,r')]
 | .fn _ x,.fn _ y=>x.zipNames y
 | .tup x,.tup y=>x.zipNames y
 | .may _ x,.may _ y=>x.zipNames y
 | _,_=> []
def nubP (l:List (Nat × Nat)):List (Nat × Nat):=l.foldl (fun acc p=>bif acc.any (fun q=>Nat.beq q.1 p.1 && Nat.beq q.2 p.2) then acc else acc++ [p]) []
def zipRoots (hr:List (Nat × Rt)) (a:St) (l:List (Nat × Nat)):List (Nat × Nat):=l.flatMap fun p=>match look hr p.1,(a.root p.2).rt with
 | some (.var _ x),.var _ y=>x.zipNames y
 | _,_=> []
def closePs (hr:List (Nat × Rt)) (a:St):Nat→List (Nat × Nat)→List (Nat × Nat)
 | 0,l=>l
 | d+1,l=>match nubP (l++zipRoots hr a l) with
  | l'=>bif Nat.beq l'.length l.length then l else closePs hr a d l'
def nodupB:List Nat→Bool
 | []=>true
 | x::l=> !(l.any (Nat.beq x)) && nodupB l
def memB (l:List Nat) (x:Nat):Bool:=l.any (Nat.beq x)
def renBy (ps:List (Nat × Nat)) (r:Nat):Nat:=nameBy (ps.map fun x=>(x.2,x.1)) r
def T.names:T→List Nat
 | .row x=>x.names
 | .pair a b=>a.names++b.names
 | .own r _=> [r]
 | .sref r _ _ _=> [r]
 | .ptr r _=> [r]
 | .mref r=> [r]
 | .fn _ x=>x.names
 | .tup x=>x.names
 | .may _ x=>x.names
 | _=> []
def Rt.names:Rt→List Nat
 | .var _ x=>x.names
 | _=> []
def matchTs (ps:List (Nat × Nat)):List T→List T→Option (G × List Leaf)
 | [],[]=>some (.tt,[])
 | sk::sks,x::xs=>if (sk.like (renT (renBy ps) x.need.2) && x.need.2.names.all (memB (ps.map (·.2))))=true then
   match matchTs ps sks xs with
   | some (g,l)=>some (.and x.need.1 g,(renT (renBy ps) x.need.2).leaves++l)
   | none=>none
  else none
 | _,_=>none
def matchRs (ps:List (Nat × Nat)) (a:St):List (Nat × Rt)→Option (G × List Leaf)
 | []=>some (.tt,[])
 | (k,rt)::l=>match look ps k with
  | some r=>if (rt.like (renRt (renBy ps) (a.root r).rt) && (a.root r).rt.names.all (memB (ps.map (·.2))))=true then
    match matchRs ps a l with
    | some (g,lv)=>some (.and (a.root r).g g,(renRt (renBy ps) (a.root r).rt).leaves++lv)
    | none=>none
   else none
  | none=>none
def sameKeys (ks:List Nat) (ps:List (Nat × Nat)):Bool:=nodupB (ps.map (·.1)) && (nodupB (ps.map (·.2)) && (nodupB ks && (ks.all (memB (ps.map (·.1))) && (ps.map (·.1)).all (memB ks))))
def bindTo (a:St) (ps:List (Nat × Nat)) (sks xs:List T) (hr:List (Nat × Rt)):Option (G × List Leaf):=
 if sameKeys (hr.map (·.1)) ps=true then match matchTs ps sks xs,matchRs ps a hr with
  | some (g,l),some (g',l')=>some (.and g g',l++l')
  | _,_=>none
 else none
def adaptTs (sa sb:St):List T→List T→Nat→Option (List T × List Nat × List Ty)
 | [],[],_=>some ([],[],[])
 | x::xs,y::ys,n=>if x.need.2.solid=true then match adaptT sa sb depth x.need.2 y n with
   | (z,f,t)=>match adaptTs sa sb xs ys (n+t.length) with
    | some (zs,fs,ts)=>some (x.again z::zs,f++fs,t++ts)
    | none=>none
  else none
 | _,_,_=>none
structure Ent where
 f:FuncId
 hin:List (Nat × Rt)
 ain:List T
 hout:List (Nat × Rt)
 aout:List T
 ro:List Nat
def tys (l:List Leaf):List Ty:=l.map (·.t)
def Ent.ins (e:Ent):List Ty:=tys (e.ain.flatMap T.leaves++e.hin.flatMap fun x=>x.2.leaves)
def Ent.outs (e:Ent):List Ty:=tys (e.aout.flatMap T.leaves++e.hout.flatMap fun x=>x.2.leaves)
structure Fun where
 e:Ent
 fn:HL e.ins→BoolD × HL e.outs
def kept (l:List (Nat × Rt)):List (Nat × HE):=l.map fun x=>(x.1,(⟨.tt,x.2⟩:HE))
def startSt (e:Ent) (l:List Leaf):Option St:=
 match plugTs e.ain l with
 | some (ts,l1)=>match plugRs e.hin l1 with
  | some (rs,[])=>some {sl:=(List.range ts.length).zip ts,hp:=kept rs,nx:=e.hin.length}
  | _=>none
 | none=>none
def asRes:List T→T
 | [x]=>x
 | l=>.tup (T.ofList l)
def backName (ps:List (Nat × Nat)) (na fr k:Nat):Nat:=match look ps k with
 | some r=>r
 | none=>fr+(k - na)
def keyIn (l:List (Nat × Rt)) (k:Nat):Bool:=l.any fun x=>Nat.beq x.1 k
def sameFz (M:St) (ps:List (Nat × Nat)) (hin:List (Nat × Rt)):Bool:=hin.all fun x=>match look ps x.1 with
 | some r=>(match x.2,(M.root r).rt with | .arr _ _ a,.arr _ _ b=>a==b | _,_=>true)
 | none=>false
def applyUp (s M:St) (n:Nat) (e:Ent) (ps:List (Nat × Nat)) (hs:List (Nat × Rt)):List (Nat × HE):=
 kept (hs.map fun x=>(backName ps e.hin.length n x.1,renRt (backName ps e.hin.length n) x.2))++
  (((e.hin.filter fun k=> !(keyIn e.hout k.1) && !(memB e.ro k.1)).map fun k=>(backName ps e.hin.length n k.1,(⟨.ff,.gone⟩:HE)))++fresh M.hp s.hp.length)
def applyChk (fr:Nat) (e:Ent) (res:List T) (hs:List (Nat × Rt)) (up:List (Nat × HE)):Bool:=
 (res.all fun x=>x.names.all fun p=>keyIn e.hin p || Nat.ble e.hin.length p) && ((hs.all fun x=>x.2.names.all fun p=>keyIn e.hin p || Nat.ble e.hin.length p) && up.all fun x=>Nat.blt x.1 (fr+stride))
def applyTo (fr:Nat) (s M:St) (n:Nat) (F:Fun) (ps:List (Nat × Nat)) (g0:G) (lv:List Leaf):Option OpR:=
 match HL.of F.e.ins lv with
 | some x=>match plugTs F.e.aout (HL.leaves F.e.outs (F.fn x).2) with
  | some (res,l1)=>match plugRs F.e.hout l1 with
   | some (hs,[])=>if (applyChk fr F.e res hs (applyUp s M n F.e ps hs) && nodupB (F.e.hout.map (·.1)))=true then
     some ⟨.and g0 (.of (F.fn x).1),asRes (res.map (renT (backName ps F.e.hin.length n))),applyUp s M n F.e ps hs⟩ else none
   | _=>none
  | none=>none
 | none=>none
def underNames (e:Ent) (ps:List (Nat × Nat)):St:=⟨[],e.hin.map fun x=>(nameBy ps x.1,(⟨.tt,renRt (nameBy ps) x.2⟩:HE)),0⟩
def applyPs (fr:Nat) (s M:St) (n:Nat) (F:Fun) (zs:List T) (ps:List (Nat × Nat)):Option OpR:=
 if sameFz M ps F.e.hin=true then match bindTo M ps F.e.ain zs F.e.hin with
  | some (g,lv)=>applyTo fr s M n F ps g lv
  | none=>none
 else none
def applyAt (fr:Nat) (s:St) (F:Fun) (zs:List T) (ps:List (Nat × Nat)):St × Nat→Option OpR
 | (M,n)=>applyPs fr s M n F zs (closePs F.e.hin M depth ps)
def applyIn (fr:Nat) (s:St) (F:Fun) (zs:List T) (fs:List Nat) (ts:List Ty) (ps:List (Nat × Nat)):Option OpR:=
 applyAt fr s F zs ps (adaptRoots (underNames F.e ps) (ps.map (·.2)) (addNils (frzs s fs) fr ts) (fr+ts.length))
def applyEnt (s:St) (fr:Nat) (F:Fun) (args:List T):Option OpR:=
 match adaptTs s ⟨[],kept F.e.hin,0⟩ args F.e.ain fr with
 | some (zs,fs,ts)=>applyIn fr s F zs fs ts (nubP ((F.e.ain.zip zs).flatMap fun x=>x.1.zipNames x.2.need.2))
 | none=>none
def callT (s:St) (fr:Nat) (f:FuncId) (args:List T):List Fun→Option OpR
 | []=>none
 | F::K=>bif Nat.beq F.e.f f then (match applyEnt s fr F args with | some r=>some r | none=>callT s fr f args K) else callT s fr f args K
def nub (l:List Nat):List Nat:=l.foldl (fun acc x=>bif acc.elem x then acc else acc++ [x]) []
def reach (s:St):Nat→List Nat→List Nat
 | 0,l=>l
 | d+1,l=>match nub (l++l.flatMap fun r=>(s.root r).rt.names) with
  | l'=>bif Nat.beq l'.length l.length then l else reach s d l'
def weakNames (s:St) (xs:List T):List Nat:=(reach s depth (nub (xs.flatMap T.names))).filter fun r=>match s.root r with
 | ⟨.of _,rt⟩=>rt.alive
 | _=>false
def guardsOf (s:St):List Nat→G
 | []=>.tt
 | r::l=>.and (s.root r).g (guardsOf s l)
def force (s:St) (l:List Nat):St:= {s with hp:=l.map (fun r=>(r,(⟨.tt,(s.root r).rt⟩:HE)))++s.hp}
def callF (s:St) (fr:Nat) (f:FuncId) (args:List T) (K:List Fun) (l:List Nat):Option OpR:=match callT (force s l) fr f args K with
 | some r=>some {r with ok:=.and (guardsOf s l) r.ok}
 | none=>none
def callG (s:St) (fr:Nat) (f:FuncId) (args:List T) (K:List Fun):Option OpR:=callF s fr f args K (weakNames s args)
def capList:Nat→T→Option (List T)
 | 0,_=>none
 | d+1,x=>match x with
  | .pure .unit _=>some []
  | x=>match x.split with
   | some (a,b)=>if (a.solid && (Nat.beq a.size 1 && !a.isRow))=true then (match capList d b with | some l=>some (a::l) | none=>none) else none
   | none=>none
def evOper (P:Program) (K:List Fun) (fr:Nat) (o:Oper) (s:St):Option OpR:=
 match o.op with
 | .call c=>match c.callee with
  | .value fop=>match (evl s fop).need with
   | (g,.fn f caps)=>match capList depth caps with
    | some cs=>if (caps.solid && Nat.beq c.args.toList.length c.argTypes.toList.length)=true then
      match callG s fr f ((c.args.toList.zip c.argTypes.toList).map (fun (a,t)=>asTy P t (evl s a))++cs) K with
      | some r=>some {r with ok:=.and g r.ok}
      | none=>none
     else none
    | none=>none
   | _=>none
  | _=>evOp P fr o s
 | _=>evOp P fr o s
def guardOf (ops:Array Oper) (o:Oper) (s:St):Option G:=match o.guard with
 | none=>some .tt
 | some (j,want)=>match (ops[j]?).bind (·.dst) with
  | some t=>match s.slot t with
   | .pure .bool v=>some (.of (cond want (toB v) (bNot (toB v))))
   | .may g (.pure .bool v)=>some (.of (bAnd g (cond want (toB v) (bNot (toB v)))))
   | _=>none
  | none=>none
def addUp (s:St) (γ:G):List (Nat × HE)→St
 | []=>s
 | (r,h)::l=>match γ with
  | .tt=>(addUp s γ l).keep r h.g h.rt
  | γ=>match mergeHE γ.val h (s.root r) with
   | ⟨g,x⟩=>(addUp s γ l).keep r g x
def stepSt (s:St) (γ:G) (dst:Option Tmp) (r:OpR):G × St:=
 match γ with
 | .tt=>(r.ok,(addUp s .tt r.up).put dst r.res)
 | γ=>(match r.ok with | .tt=>.tt | k=>.of (bIte γ.val k.val (bLit true)),(addUp s γ r.up).put dst (match r.res with | .may g x=>.may (bAnd γ.val g) x | x=>.may γ.val x))
def T.under (n:Nat) (x:T):Bool:=x.names.all fun r=>Nat.blt r n
def HE.under (n:Nat) (h:HE):Bool:=match h.rt with | .var _ x=>x.under n | _=>true
def newsOk (n:Nat) (s:St) (k:Nat) (dst:Option Tmp):Bool:=
 (s.hp.take k).all (fun x=>Nat.blt x.1 n && x.2.under n) && (match dst with | some t=>(s.slot t).under n | none=>true)
def evOps (P:Program) (K:List Fun) (ops:Array Oper) (nx:Nat):Nat→List Oper→G × St→Option (G × St)
 | _,[],s=>some s
 | j,o::l,(g,s)=>match guardOf ops o s with
  | some γ=>match evOper P K (nx+stride*j) o s with
   | some r=>match stepSt s γ o.dst r with
    | (g',s')=>if newsOk (nx+stride*(j+1)) s' r.up.length o.dst=true then evOps P K ops nx (j+1) l (.and g g',s') else none
   | none=>none
  | none=>none
def view (L F:List Nat) (s:St):St:=⟨L.map (fun t=>(t,s.slot t)),F.map (fun q=>(q,s.root q)),0⟩
structure DEnt where
 o:Oper
 fr:Nat
 L:List Nat
 F:List Nat
 W:List Nat
 R:List Nat
 V:List Nat
def sureB:HE→Bool
 | ⟨.tt,.var _ _⟩=>true
 | _=>false
def thin (P:Program) (o:Oper) (s:St):Option (G × T × List Nat):=match o.op with
 | .move a=>some (.tt,asTy P o.type (raw s a),[])
 | .assign a=>some (.tt,asTy P o.type (evl s a),[])
 | .nilCheck x=>match (evl s x).need with
  | (g,.ptr r p)=>some (g,.ptr r p,[r])
  | _=>none
 | .fieldAddr t a i=>match (evl s a).need,fieldSteps P t i with
  | (g,.ptr r p),some q=>some (g,.ptr r (p++q),[r])
  | _,_=>none
 | .indexAddr t a i=>match (evl s a).need,(evl s i).need,P.underlying t with
  | (g,.ptr r p),(g',.pure (.int _) z),some (.array n e)=>match P.info? e with
   | some ie=>some (.and g (.and g' (.of (bAnd (iNonneg z) (nLt (nOfI z) (nLit n))))),.ptr r (p++ [.ix (nOfI z) ie.size]),[r])
   | none=>none
  | _,_,_=>none
 | .load t a=>match (evl s a).need with
  | (g,.ptr r p)=>match s.root r with
   | ⟨.tt,.var _ x⟩=>match x.get p with
    | some (g',y)=>if sizeIs P t y=true then some (.and g g',y,[]) else none
    | none=>none
   | _=>none
  | _=>none
 | _=>none
def thinF (o:Oper) (s:St):List Nat:=match o.op with
 | .load _ a=>match (evl s a).need with
  | (_,.ptr r _)=> [r]
  | _=> []
 | _=> []
def thinNow (P:Program) (o:Oper) (s:St) (R:List Nat):Bool:=R.all (fun q=>sureB (s.root q)) && (match o.op with
 | .indexAddr t a i=>(openIdx P s t (evl s a).need.2 i).isNone
 | _=>true)
def footOf (s:St) (L:List Nat):List Nat:=reach s depth (nub (L.flatMap fun t=>(s.slot t).names))
def nameIn (fr:Nat) (F:List Nat) (r:Nat):Bool:=memB F r || (Nat.ble fr r && Nat.blt r (fr+stride))
def closedIn (s:St) (F:List Nat):Bool:=F.all fun q=>(s.root q).rt.names.all (memB F)
def drawChk (fr:Nat) (F:List Nat) (s:St) (r:OpR):Bool:=
 closedIn s F && ((F.all fun q=>Nat.blt q fr) && (r.res.names.all (nameIn fr F) && r.up.all fun x=>nameIn fr F x.1 && x.2.rt.names.all (nameIn fr F)))
def moreD (x:DEnt):Option (G × St × List DEnt)→Option (G × St × List DEnt)
 | some (g,s,T)=>some (g,s,x::T)
 | none=>none
def thinOf (P:Program) (ops:Array Oper) (fr:Nat) (o:Oper) (s:St):Option (G × T × List Nat):=match thin P o (view (o.looksAt ops) (thinF o s) s) with
 | some (k,y,R)=>if (thinNow P o s R && (thinF o s).all fun q=>Nat.blt q fr)=true then some (k,y,R) else none
 | none=>none
def drawOps (P:Program) (K:List Fun) (ops:Array Oper) (nx:Nat):Nat→List Oper→G × St→Option (G × St × List DEnt)
 | _,[],(g,s)=>some (g,s,[])
 | j,o::l,(g,s)=>match guardOf ops o s,thinOf P ops (nx+stride*j) o s with
  | some γ,some (k,y,R)=>match stepSt s γ o.dst ⟨k,y,[]⟩ with
   | (g',s')=>if newsOk (nx+stride*(j+1)) s' 0 o.dst=true then moreD ⟨o,nx+stride*j,o.looksAt ops,thinF o s,[],R,[]⟩ (drawOps P K ops nx (j+1) l (.and g g',s')) else none
  | _,_=>match footOf s (o.looksAt ops) with
  | F=>match guardOf ops o (view (o.looksAt ops) F s),evOper P K (nx+stride*j) o (view (o.looksAt ops) F s) with
   | some γ,some r=>if (((o.looksAt ops).all fun t=>(s.slot t).names.all (memB F)) && drawChk (nx+stride*j) F s r)=true then match stepSt s γ o.dst r with
     | (g',s')=>if newsOk (nx+stride*(j+1)) s' r.up.length o.dst=true then moreD ⟨o,nx+stride*j,o.looksAt ops,F,r.up.map (·.1),[],(r.up.map (·.1)).filter fun q=>memB F q && (sureB (s.root q) && sureB (s'.root q))⟩ (drawOps P K ops nx (j+1) l (.and g g',s')) else none
    else none
   | _,_=>none
def indep (ops:Array Oper) (x y:DEnt):Bool:=
 x.o.apart ops y.o && ((x.W.all fun q=> !memB y.F q && !memB y.W q) && ((y.W.all fun q=> !memB x.F q) && (x.F.all (fun q=> !(Nat.ble y.fr q && Nat.blt q (y.fr+stride))) && (y.F.all (fun q=> !(Nat.ble x.fr q && Nat.blt q (x.fr+stride))) && (x.R.all (fun q=> !memB y.W q || memB y.V q) && y.R.all fun q=> !memB x.W q || memB x.V q)))))
def bound (o:Oper):List Nat:=(o.after.toList.filter (Region.binds .any)).map (·.on)
def orAll (acc:List Nat):List Nat→Nat
 | []=>0
 | k::ks=>2 ^ k ||| (acc[k]?).getD 0 ||| orAll acc ks
def closeB:List Oper→List Nat→List Nat
 | [],acc=>acc
 | o::rest,acc=>closeB rest (acc++ [orAll acc (bound o)])
def indepAt (ops:Array Oper) (T:List DEnt) (i j:Nat):Bool:=match T[i]?,T[j]? with | some x,some y=>indep ops x y | _,_=>false
def pairOk (ops:Array Oper) (T:List DEnt) (cl:List Nat) (i j:Nat):Bool:=((cl[j]?).getD 0).testBit i || indepAt ops T i j
def drawOk (ops:Array Oper) (T:List DEnt):Bool:=match closeB ops.toList [] with
 | cl=>(List.range ops.size).all fun j=>(match ops[j]? with | some o=>(bound o).all (fun k=>Nat.blt k j) | none=>true) && (List.range j).all fun i=>pairOk ops T cl i j
structure Out where
 ok:G
 ex:List (Nat × G × St)
def exN:Nat:=0
def exR:Nat:=1
def exX (id:Nat):Nat:=id+2
def Out.bad:Out:=⟨.ff,[]⟩
def Out.mergeEx (c:BoolD) (s:St):Option (G × St)→Option (G × St)→Option (G × St)
 | some (g,a),some (h,b)=>some (G.ite c g h,mergeSt c s a b)
 | some (g,a),none=>some (.and g (.of c),a)
 | none,some (h,b)=>some (.and h (.of (bNot c)),b)
 | none,none=>none
def unionKeys (a b:List Nat):List Nat:=a++b.filter fun k=> !a.elem k
def Out.merge (c:BoolD) (s:St) (A B:Out):Out:=
 ⟨G.ite c A.ok B.ok,(unionKeys (A.ex.map (·.1)) (B.ex.map (·.1))).filterMap fun k=>(Out.mergeEx c s (look A.ex k) (look B.ex k)).map fun x=>(k,x)⟩
structure LH where
 vs:List Nat
 rs:List Nat
 tgt:St
 tv:List Nat
 tr:List Nat
 ex:List (Nat × List Nat)
 sp:List (Nat × (List Nat × List (Nat × Nat)))
 deriving Inhabited
def newBelow (s M:St):Bool:=
 (fresh M.sl s.sl.length).all (fun x=>x.2.under M.nx) && (fresh M.hp s.hp.length).all (fun x=>Nat.blt x.1 M.nx && x.2.under M.nx)
def Out.checked (s:St) (o:Out):Out:=if o.ex.all (fun x=>Nat.ble s.nx x.2.2.nx && newBelow s x.2.2)=true then o else Out.bad
def nloops:Code→Nat
 | .seq a b=>nloops a+nloops b
 | .cond _ a b=>nloops a+nloops b
 | .block _ b=>nloops b
 | .loop b=>1+nloops b
 | _=>0
end Go.Tm
