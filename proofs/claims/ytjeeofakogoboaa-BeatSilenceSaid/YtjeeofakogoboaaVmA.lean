/- A small machine of plain data beside Go's own: its words, and what it means that a value of Go reads as one of these. It states nothing of any program. -/
import GoSem.Claim
import Derived.Calls
import Derived.Laws.IdiomCopy
import Derived.Below
namespace Go.Vm
set_option linter.unusedVariables false

/-- One cell. 'sl': a slice that is only read, with all its cells; 'loc': the address of one of such cells; 'ar': a slice of an array that the machine keeps (its number, its version, the first cell, how many elements); 'ptr': an address in such an array or a variable; 'fn': a function with what it captured; 'dead': anything. -/
inductive C where
  | sc (v : Value)
  | sl (n : Nat) (cs : List C)
  | loc (cs : List C) (off : Nat)
  | ar (id ver off n : Nat)
  | ptr (id ver off : Nat)
  | fn (f : FuncId) (caps : List C)
  | dead
  deriving Inhabited

inductive V where
  | one (c : C)
  | agg (cs : List C)
  deriving Inhabited

inductive D where
  | v (x : V)
  | tup (xs : List V)
  | dead
  deriving Inhabited

/-- What the machine keeps: a variable or an array: how many cells an element has, the version, the cells, may it not be written any more. -/
inductive Ob where
  | cells (sz ver : Nat) (cs : List C) (fz : Bool)
  | gone
  deriving Inhabited

mutual
/-- A cell that leads to nothing that is kept. -/
def plain : C → Bool
  | .ar .. => false
  | .ptr .. => false
  | .fn _ caps => plains caps
  | _ => true
def plains : List C → Bool
  | [] => true
  | c :: cs => plain c && plains cs
end

def Ob.fit (o : Ob) (ver : Nat) : Bool := match o with | .cells _ v _ _ => v == ver | .gone => false

section
variable (β : Nat → Option (Nat × Nat)) (H : List Ob) (S : Nat → Nat → Prop) (w : World)

/-- What a reference to an array says. -/
def ArSays (id ver off n : Nat) (u : Value) : Prop :=
  id < H.length ∧ ∀ sz ver' cs fz, H[id]? = some (.cells sz ver' cs fz) → ver ≤ ver' ∧ (ver = ver' → off + n * sz ≤ cs.length ∧
    ((n = 0 ∧ ∃ a, u = .slice a 0 0) ∨
     ∃ b o cap e arr, β id = some (b, o) ∧ u = .slice (some ⟨b, o + off, none⟩) n cap ∧ n ≤ cap ∧ w.heap[b]? = some (.cells arr e (0, 0)) ∧ o + off + cap * sz ≤ arr.size))

def PtrSays (id ver off : Nat) (u : Value) : Prop :=
  id < H.length ∧ ∀ sz ver' cs fz, H[id]? = some (.cells sz ver' cs fz) → ver ≤ ver' ∧ (ver = ver' → ∃ b o, β id = some (b, o) ∧ u = .pointer (some ⟨b, o + off, none⟩))

mutual
/-- The value u reads as the cell, and leads to nothing that is kept. -/
def RelP : C → Value → Prop
  | .sc v, u => u = v ∧ v.oneCell' = true
  | .sl n cs, u => ∃ a cap, u = .slice a n cap ∧ n ≤ cap ∧ ((n = 0 ∧ cs = []) ∨ ∃ b o, a = some ⟨b, o, none⟩ ∧ RelAt cs b o)
  | .loc cs off, u => ∃ b o, u = .pointer (some ⟨b, o + off, none⟩) ∧ RelAt cs b o
  | .ar _ _ _ _, _ => False
  | .ptr _ _ _, _ => False
  | .fn f caps, u => ∃ us, u = .func (.func f) #[] us ∧ RelPL caps us.toList
  | .dead, u => u.oneCell' = true
/-- The cells lie there, from place o of block b on, and will not be written any more. -/
def RelAt : List C → Nat → Nat → Prop
  | [], _, _ => True
  | c :: cs, b, o => S b o ∧ (∃ u, w.cell? ⟨b, o, none⟩ = some u ∧ RelP c u) ∧ RelAt cs b (o + 1)
def RelPL : List C → List Value → Prop
  | [], us => us = []
  | c :: cs, us => ∃ u us', us = u :: us' ∧ RelP c u ∧ RelPL cs us'
end

mutual
/-- The value u reads as the cell. -/
def RelC : C → Value → Prop
  | .sc v, u => RelP S w (.sc v) u
  | .sl n cs, u => RelP S w (.sl n cs) u
  | .loc cs off, u => RelP S w (.loc cs off) u
  | .dead, u => RelP S w .dead u
  | .ar id ver off n, u => (∃ a n cap, u = .slice a n cap) ∧ ArSays β H w id ver off n u
  | .ptr id ver off, u => (∃ a, u = .pointer a) ∧ PtrSays β H id ver off u
  | .fn f caps, u => ∃ us, u = .func (.func f) #[] us ∧ RelL caps us.toList
def RelL : List C → List Value → Prop
  | [], us => us = []
  | c :: cs, us => ∃ u us', us = u :: us' ∧ RelC c u ∧ RelL cs us'
end

def RelV : V → Value → Prop
  | .one c, u => RelC β H S w c u
  | .agg cs, u => ∃ us, u = .agg us ∧ RelL β H S w cs us.toList

def RelVs : List V → List Value → Prop
  | [], us => us = []
  | x :: xs, us => ∃ u us', us = u :: us' ∧ RelV β H S w x u ∧ RelVs xs us'

def RelD : D → Value → Prop
  | .v x, u => RelV β H S w x u
  | .tup xs, u => ∃ us, u = .tuple us ∧ RelVs β H S w xs us.toList
  | .dead, _ => True

def RelDs : List D → List Value → Prop
  | [], us => us = []
  | x :: xs, us => ∃ u us', us = u :: us' ∧ RelD β H S w x u ∧ RelDs xs us'

/-- What the machine keeps lies in the blocks that β says, one a block; these may be written ('Wr'), and what is only read ('S') lies elsewhere. -/
structure HRel (Wr : Nat → Prop) : Prop where
  cells : ∀ id sz ver cs fz, H[id]? = some (.cells sz ver cs fz) → (0 < sz ∧ (ver ≠ 0 → ∀ c ∈ cs, plain c = true)) ∧ ((β id = none ∧ cs = []) ∨ ∃ b o arr e, β id = some (b, o) ∧ w.heap[b]? = some (.cells arr e (0, 0)) ∧ Wr b ∧ o + cs.length ≤ arr.size ∧
    (∀ j c, cs[j]? = some c → ∃ u, w.cell? ⟨b, o + j, none⟩ = some u ∧ RelC β H S w c u) ∧ (∀ k, S b k → k < o + (if fz then cs.length else 0)))
  inj : ∀ id id' sz ver cs fz sz' ver' cs' fz' b o o', H[id]? = some (.cells sz ver cs fz) → H[id']? = some (.cells sz' ver' cs' fz') → β id = some (b, o) → β id' = some (b, o') → id = id'
  imm : ∀ b o, S b o → b < w.heap.size
end

/-- How the world may have gone on. -/
structure Evo (Wr : Nat → Prop) (S : Nat → Nat → Prop) (w w' : World) : Prop where
  os : w'.os = w.os
  tape : w'.tape = w.tape
  output : w'.output = w.output
  size : w.heap.size ≤ w'.heap.size
  block : ∀ b, b < w.heap.size → ¬ Wr b → w'.heap[b]? = w.heap[b]?
  imm : ∀ b o, S b o → w'.cell? ⟨b, o, none⟩ = w.cell? ⟨b, o, none⟩
  shape : ∀ (b : Nat) (arr : Array Value) (e : TypeId), w.heap[b]? = some (.cells arr e (0, 0)) → ∃ arr' : Array Value, w'.heap[b]? = some (.cells arr' e (0, 0)) ∧ arr'.size = arr.size

/-- How what is kept may have gone on. -/
structure Ext (β : Nat → Option (Nat × Nat)) (H : List Ob) (S : Nat → Nat → Prop) (β' : Nat → Option (Nat × Nat)) (H' : List Ob) (S' : Nat → Nat → Prop) : Prop where
  len : H.length ≤ H'.length
  ids : ∀ id sz ver cs' fz', id < H.length → H'[id]? = some (.cells sz ver cs' fz') → ∃ ver0 cs fz, H[id]? = some (.cells sz ver0 cs fz) ∧ ver0 ≤ ver ∧ (ver0 = ver → cs.length ≤ cs'.length ∧ β' id = β id)
  sub : ∀ b o, S b o → S' b o

theorem Evo.refl (Wr : Nat → Prop) (S : Nat → Nat → Prop) (w : World) : Evo Wr S w w :=
  ⟨rfl, rfl, rfl, Nat.le_refl _, fun _ _ _ => rfl, fun _ _ _ => rfl, fun _ arr _ h => ⟨arr, h, rfl⟩⟩

theorem Evo.trans {Wr : Nat → Prop} {S S' : Nat → Nat → Prop} {a b c : World} (h : Evo Wr S a b) (k : Evo Wr S' b c) (hs : ∀ b o, S b o → S' b o) : Evo Wr S a c where
  os := k.os.trans h.os
  tape := k.tape.trans h.tape
  output := k.output.trans h.output
  size := Nat.le_trans h.size k.size
  block := fun x hx hw => (k.block x (Nat.lt_of_lt_of_le hx h.size) hw).trans (h.block x hx hw)
  imm := fun x o hs' => (k.imm x o (hs x o hs')).trans (h.imm x o hs')
  shape := fun x arr e hx => by
    obtain ⟨arr1, h1, e1⟩ := h.shape x arr e hx
    obtain ⟨arr2, h2, e2⟩ := k.shape x arr1 e h1
    exact ⟨arr2, h2, e2.trans e1⟩

theorem Ext.refl (β : Nat → Option (Nat × Nat)) (H : List Ob) (S : Nat → Nat → Prop) : Ext β H S β H S :=
  ⟨Nat.le_refl _, fun id sz ver cs fz _ h => ⟨ver, cs, fz, h, Nat.le_refl _, fun _ => ⟨Nat.le_refl _, rfl⟩⟩, fun _ _ h => h⟩

theorem Ext.trans {β β' β'' : Nat → Option (Nat × Nat)} {H H' H'' : List Ob} {S S' S'' : Nat → Nat → Prop} (h : Ext β H S β' H' S') (k : Ext β' H' S' β'' H'' S'') : Ext β H S β'' H'' S'' where
  len := Nat.le_trans h.len k.len
  ids := fun id sz ver cs fz hlt hH => by
    obtain ⟨v1, c1, f1, e1, l1, k1⟩ := k.ids id sz ver cs fz (Nat.lt_of_lt_of_le hlt h.len) hH
    obtain ⟨v0, c0, f0, e0, l0, k0⟩ := h.ids id sz v1 c1 f1 hlt e1
    refine ⟨v0, c0, f0, e0, Nat.le_trans l0 l1, fun he => ?_⟩
    have h1 : v1 = ver := Nat.le_antisymm l1 (he ▸ l0)
    have h0 : v0 = v1 := by omega
    exact ⟨Nat.le_trans (k0 h0).1 (k1 h1).1, (k1 h1).2.trans (k0 h0).2⟩
  sub := fun b o hs => k.sub b o (h.sub b o hs)

section
variable {β β' : Nat → Option (Nat × Nat)} {H H' : List Ob} {S S' : Nat → Nat → Prop} {w w' : World} {Wr : Nat → Prop}

theorem ArSays.step (he : Ext β H S β' H' S') (hv : Evo Wr S w w') {id ver off n : Nat} {u : Value} (h : ArSays β H w id ver off n u) : ArSays β' H' w' id ver off n u := by
  obtain ⟨hid, h⟩ := h
  refine ⟨Nat.lt_of_lt_of_le hid he.len, fun sz ver' cs fz hH => ?_⟩
  obtain ⟨v0, c0, f0, e0, l0, k0⟩ := he.ids id sz ver' cs fz hid hH
  obtain ⟨hle, hs⟩ := h sz v0 c0 f0 e0
  refine ⟨Nat.le_trans hle l0, fun heq => ?_⟩
  have h0 : v0 = ver' := by omega
  obtain ⟨hb, hβ⟩ := k0 h0
  obtain ⟨hlen, hs⟩ := hs (by omega)
  refine ⟨Nat.le_trans hlen hb, ?_⟩
  rcases hs with ⟨h2, h3⟩ | ⟨b, o, cap, e, arr, h1, h2, h3, h4, h5⟩
  · exact .inl ⟨h2, h3⟩
  · obtain ⟨arr', ha, hsz⟩ := hv.shape b arr e h4
    exact .inr ⟨b, o, cap, e, arr', hβ.trans h1, h2, h3, ha, by omega⟩

theorem PtrSays.step (he : Ext β H S β' H' S') {id ver off : Nat} {u : Value} (h : PtrSays β H id ver off u) : PtrSays β' H' id ver off u := by
  obtain ⟨hid, h⟩ := h
  refine ⟨Nat.lt_of_lt_of_le hid he.len, fun sz ver' cs fz hH => ?_⟩
  obtain ⟨v0, c0, f0, e0, l0, k0⟩ := he.ids id sz ver' cs fz hid hH
  obtain ⟨hle, hs⟩ := h sz v0 c0 f0 e0
  refine ⟨Nat.le_trans hle l0, fun heq => ?_⟩
  obtain ⟨hb, hβ⟩ := k0 (by omega)
  obtain ⟨b, o, h1, h2⟩ := hs (by omega)
  exact ⟨b, o, hβ.trans h1, h2⟩

mutual
theorem RelP.step (hs : ∀ b o, S b o → S' b o) (hv : ∀ b o, S b o → w'.cell? ⟨b, o, none⟩ = w.cell? ⟨b, o, none⟩) : ∀ (c : C) (u : Value), RelP S w c u → RelP S' w' c u
  | .sc _, _, h => by simpa only [RelP] using h
  | .sl n cs, u, h => by
    simp only [RelP] at h ⊢
    obtain ⟨a, cap, h1, h2, h3⟩ := h
    refine ⟨a, cap, h1, h2, ?_⟩
    rcases h3 with h3 | ⟨b, o, h3, h4⟩
    · exact .inl h3
    · exact .inr ⟨b, o, h3, RelAt.step hs hv cs b o h4⟩
  | .loc cs off, u, h => by
    simp only [RelP] at h ⊢
    obtain ⟨b, o, h1, h2⟩ := h
    exact ⟨b, o, h1, RelAt.step hs hv cs b o h2⟩
  | .ar .., _, h => by simp only [RelP] at h
  | .ptr .., _, h => by simp only [RelP] at h
  | .fn f caps, u, h => by
    simp only [RelP] at h ⊢
    obtain ⟨us, h1, h2⟩ := h
    exact ⟨us, h1, RelPL.step hs hv caps us.toList h2⟩
  | .dead, _, h => by simpa only [RelP] using h
theorem RelAt.step (hs : ∀ b o, S b o → S' b o) (hv : ∀ b o, S b o → w'.cell? ⟨b, o, none⟩ = w.cell? ⟨b, o, none⟩) : ∀ (cs : List C) (b o : Nat), RelAt S w cs b o → RelAt S' w' cs b o
  | [], _, _, _ => by simp only [RelAt]
  | c :: cs, b, o, h => by
    simp only [RelAt] at h ⊢
    obtain ⟨h1, ⟨u, h2, h3⟩, h4⟩ := h
    exact ⟨hs b o h1, ⟨u, (hv b o h1).trans h2, RelP.step hs hv c u h3⟩, RelAt.step hs hv cs b (o + 1) h4⟩
theorem RelPL.step (hs : ∀ b o, S b o → S' b o) (hv : ∀ b o, S b o → w'.cell? ⟨b, o, none⟩ = w.cell? ⟨b, o, none⟩) : ∀ (cs : List C) (us : List Value), RelPL S w cs us → RelPL S' w' cs us
  | [], _, h => by simpa only [RelPL] using h
  | c :: cs, us, h => by
    simp only [RelPL] at h ⊢
    obtain ⟨u, us', h1, h2, h3⟩ := h
    exact ⟨u, us', h1, RelP.step hs hv c u h2, RelPL.step hs hv cs us' h3⟩
end

mutual
theorem RelC.step (he : Ext β H S β' H' S') (hv : Evo Wr S w w') : ∀ (c : C) (u : Value), RelC β H S w c u → RelC β' H' S' w' c u
  | .sc _, _, h => by simp only [RelC] at h ⊢; exact RelP.step he.sub hv.imm _ _ h
  | .sl n cs, u, h => by simp only [RelC] at h ⊢; exact RelP.step he.sub hv.imm _ _ h
  | .loc cs off, u, h => by simp only [RelC] at h ⊢; exact RelP.step he.sub hv.imm _ _ h
  | .ar id ver off n, u, h => by
    simp only [RelC] at h ⊢
    exact ⟨h.1, h.2.step he hv⟩
  | .ptr id ver off, u, h => by
    simp only [RelC] at h ⊢
    exact ⟨h.1, h.2.step he⟩
  | .fn f caps, u, h => by
    simp only [RelC] at h ⊢
    obtain ⟨us, h1, h2⟩ := h
    exact ⟨us, h1, RelL.step he hv caps us.toList h2⟩
  | .dead, _, h => by simp only [RelC] at h ⊢; exact RelP.step he.sub hv.imm _ _ h
theorem RelL.step (he : Ext β H S β' H' S') (hv : Evo Wr S w w') : ∀ (cs : List C) (us : List Value), RelL β H S w cs us → RelL β' H' S' w' cs us
  | [], _, h => by simpa only [RelL] using h
  | c :: cs, us, h => by
    simp only [RelL] at h ⊢
    obtain ⟨u, us', h1, h2, h3⟩ := h
    exact ⟨u, us', h1, RelC.step he hv c u h2, RelL.step he hv cs us' h3⟩
end

mutual
theorem RelP.rel {β : Nat → Option (Nat × Nat)} {H : List Ob} {S : Nat → Nat → Prop} {w : World} : ∀ (c : C) (u : Value), RelP S w c u → RelC β H S w c u
  | .sc _, _, h => by simpa only [RelC] using h
  | .sl n cs, u, h => by simpa only [RelC] using h
  | .loc cs off, u, h => by simpa only [RelC] using h
  | .ar .., _, h => by simp only [RelP] at h
  | .ptr .., _, h => by simp only [RelP] at h
  | .fn f caps, u, h => by
    simp only [RelP, RelC] at h ⊢
    obtain ⟨us, h1, h2⟩ := h
    exact ⟨us, h1, RelPL.rel caps us.toList h2⟩
  | .dead, _, h => by simpa only [RelC] using h
theorem RelPL.rel {β : Nat → Option (Nat × Nat)} {H : List Ob} {S : Nat → Nat → Prop} {w : World} : ∀ (cs : List C) (us : List Value), RelPL S w cs us → RelL β H S w cs us
  | [], _, h => by simpa only [RelL, RelPL] using h
  | c :: cs, us, h => by
    simp only [RelL, RelPL] at h ⊢
    obtain ⟨u, us', h1, h2, h3⟩ := h
    exact ⟨u, us', h1, RelP.rel c u h2, RelPL.rel cs us' h3⟩
end

mutual
theorem RelC.plain {β : Nat → Option (Nat × Nat)} {H : List Ob} {S : Nat → Nat → Prop} {w : World} : ∀ (c : C) (u : Value), plain c = true → RelC β H S w c u → RelP S w c u
  | .sc _, _, _, h => by simpa only [RelC] using h
  | .sl n cs, u, _, h => by simpa only [RelC] using h
  | .loc cs off, u, _, h => by simpa only [RelC] using h
  | .ar .., _, hp, _ => by simp [Vm.plain] at hp
  | .ptr .., _, hp, _ => by simp [Vm.plain] at hp
  | .fn f caps, u, hp, h => by
    simp only [RelP, RelC] at h ⊢
    obtain ⟨us, h1, h2⟩ := h
    exact ⟨us, h1, RelL.plain caps us.toList (by simpa [Vm.plain] using hp) h2⟩
  | .dead, _, _, h => by simpa only [RelC] using h
theorem RelL.plain {β : Nat → Option (Nat × Nat)} {H : List Ob} {S : Nat → Nat → Prop} {w : World} : ∀ (cs : List C) (us : List Value), plains cs = true → RelL β H S w cs us → RelPL S w cs us
  | [], _, _, h => by simpa only [RelL, RelPL] using h
  | c :: cs, us, hp, h => by
    simp only [RelL, RelPL] at h ⊢
    simp only [plains, Bool.and_eq_true] at hp
    obtain ⟨u, us', h1, h2, h3⟩ := h
    exact ⟨u, us', h1, RelC.plain c u hp.1 h2, RelL.plain cs us' hp.2 h3⟩
end

mutual
theorem RelP.isPlain {S : Nat → Nat → Prop} {w : World} : ∀ (c : C) (u : Value), RelP S w c u → Vm.plain c = true
  | .sc _, _, _ => rfl
  | .sl _ _, _, _ => rfl
  | .loc _ _, _, _ => rfl
  | .ar .., _, h => by simp only [RelP] at h
  | .ptr .., _, h => by simp only [RelP] at h
  | .fn f caps, u, h => by
    simp only [RelP] at h
    obtain ⟨us, h1, h2⟩ := h
    simp only [Vm.plain]
    exact RelPL.isPlain caps us.toList h2
  | .dead, _, _ => rfl
theorem RelPL.isPlain {S : Nat → Nat → Prop} {w : World} : ∀ (cs : List C) (us : List Value), RelPL S w cs us → plains cs = true
  | [], _, _ => rfl
  | c :: cs, us, h => by
    simp only [RelPL] at h
    obtain ⟨u, us', h1, h2, h3⟩ := h
    simp only [plains, Bool.and_eq_true]
    exact ⟨RelP.isPlain c u h2, RelPL.isPlain cs us' h3⟩
end

theorem plains_mem : ∀ {cs : List C}, plains cs = true ↔ ∀ c ∈ cs, plain c = true
  | [] => by simp [plains]
  | c :: cs => by simp [plains, plains_mem (cs := cs)]

theorem RelV.step (he : Ext β H S β' H' S') (hv : Evo Wr S w w') : ∀ (x : V) (u : Value), RelV β H S w x u → RelV β' H' S' w' x u
  | .one c, u, h => RelC.step he hv c u h
  | .agg cs, u, ⟨us, h1, h2⟩ => ⟨us, h1, RelL.step he hv cs _ h2⟩

theorem RelVs.step (he : Ext β H S β' H' S') (hv : Evo Wr S w w') : ∀ (xs : List V) (us : List Value), RelVs β H S w xs us → RelVs β' H' S' w' xs us
  | [], _, h => h
  | x :: xs, _, ⟨u, us', h1, h2, h3⟩ => ⟨u, us', h1, RelV.step he hv x u h2, RelVs.step he hv xs us' h3⟩

theorem RelD.step (he : Ext β H S β' H' S') (hv : Evo Wr S w w') : ∀ (x : D) (u : Value), RelD β H S w x u → RelD β' H' S' w' x u
  | .v x, u, h => RelV.step he hv x u h
  | .tup xs, u, ⟨us, h1, h2⟩ => ⟨us, h1, RelVs.step he hv xs _ h2⟩
  | .dead, _, _ => trivial

theorem RelDs.step (he : Ext β H S β' H' S') (hv : Evo Wr S w w') : ∀ (xs : List D) (us : List Value), RelDs β H S w xs us → RelDs β' H' S' w' xs us
  | [], _, h => h
  | x :: xs, _, ⟨u, us', h1, h2, h3⟩ => ⟨u, us', h1, RelD.step he hv x u h2, RelDs.step he hv xs us' h3⟩

end

theorem RelDs.length {β : Nat → Option (Nat × Nat)} {H : List Ob} {S : Nat → Nat → Prop} {w : World} : ∀ {xs : List D} {us : List Value}, RelDs β H S w xs us → us.length = xs.length
  | [], _, h => by simp only [RelDs] at h; simp [h]
  | x :: xs, _, ⟨u, us', h1, _, h3⟩ => by rw [h1]; simp [RelDs.length h3]

theorem RelDs.get {β : Nat → Option (Nat × Nat)} {H : List Ob} {S : Nat → Nat → Prop} {w : World} : ∀ {xs : List D} {us : List Value} (_ : RelDs β H S w xs us) (t : Nat), RelD β H S w ((xs[t]?).getD .dead) ((us[t]?).getD undef)
  | [], _, h, t => by simp only [RelDs] at h; simp [h, RelD]
  | x :: xs, _, ⟨u, us', h1, h2, h3⟩, 0 => by rw [h1]; simpa using h2
  | x :: xs, _, ⟨u, us', h1, h2, h3⟩, t + 1 => by rw [h1]; simpa using RelDs.get h3 t

theorem RelDs.set {β : Nat → Option (Nat × Nat)} {H : List Ob} {S : Nat → Nat → Prop} {w : World} {d : D} {v : Value} (hd : RelD β H S w d v) : ∀ {xs : List D} {us : List Value} (_ : RelDs β H S w xs us) (t : Nat), RelDs β H S w (xs.set t d) (us.set t v)
  | [], _, h, t => by simp only [RelDs] at h; simp [h, RelDs]
  | x :: xs, _, ⟨u, us', h1, h2, h3⟩, 0 => by rw [h1]; exact ⟨v, us', rfl, hd, h3⟩
  | x :: xs, _, ⟨u, us', h1, h2, h3⟩, t + 1 => by rw [h1]; exact ⟨u, us'.set t v, rfl, h2, RelDs.set hd h3 t⟩

end Go.Vm
