/- The small machine runs code: regions, tests, blocks, loops, calls; what a function does is said by 'Fn'. It states nothing of any program. -/
import Derived.Test.YtjeeofakogoboaaVmK
import Derived.Tactics
namespace Go.Vm
set_option linter.unusedVariables false
set_option linter.unusedSimpArgs false

/-- What is kept has gone on, as far as the first m are concerned. -/
structure ExtB (m : Nat) (β : Nat → Option (Nat × Nat)) (H : List Ob) (S : Nat → Nat → Prop) (β' : Nat → Option (Nat × Nat)) (H' : List Ob) (S' : Nat → Nat → Prop) : Prop where
  len : m ≤ H'.length
  ids : ∀ (id sz ver : Nat) (cs' : List C) (fz' : Bool), id < m → H'[id]? = some (.cells sz ver cs' fz') → ∃ ver0 cs fz, H[id]? = some (.cells sz ver0 cs fz) ∧ ver0 ≤ ver ∧ (ver0 = ver → cs.length ≤ cs'.length ∧ β' id = β id)
  sub : ∀ b o, S b o → S' b o

theorem ExtB.refl {m : Nat} (β : Nat → Option (Nat × Nat)) (H : List Ob) (S : Nat → Nat → Prop) (h : m ≤ H.length) : ExtB m β H S β H S :=
  ⟨h, fun id sz ver cs fz _ hh => ⟨ver, cs, fz, hh, Nat.le_refl _, fun _ => ⟨Nat.le_refl _, rfl⟩⟩, fun _ _ hh => hh⟩

theorem ExtB.trans {m : Nat} {β β' β'' : Nat → Option (Nat × Nat)} {H H' H'' : List Ob} {S S' S'' : Nat → Nat → Prop} (h : ExtB m β H S β' H' S') (k : ExtB m β' H' S' β'' H'' S'') : ExtB m β H S β'' H'' S'' where
  len := k.len
  ids := fun id sz ver cs fz hlt hH => by
    obtain ⟨v1, c1, f1, e1, l1, k1⟩ := k.ids id sz ver cs fz hlt hH
    obtain ⟨v0, c0, f0, e0, l0, k0⟩ := h.ids id sz v1 c1 f1 hlt e1
    refine ⟨v0, c0, f0, e0, Nat.le_trans l0 l1, fun he => ?_⟩
    have h1 : v1 = ver := Nat.le_antisymm l1 (he ▸ l0)
    have h0 : v0 = v1 := by omega
    exact ⟨Nat.le_trans (k0 h0).1 (k1 h1).1, (k1 h1).2.trans (k0 h0).2⟩
  sub := fun b o hs => k.sub b o (h.sub b o hs)

theorem Ext.toB {m : Nat} {β β' : Nat → Option (Nat × Nat)} {H H' : List Ob} {S S' : Nat → Nat → Prop} (h : Ext β H S β' H' S') (hm : m ≤ H.length) : ExtB m β H S β' H' S' :=
  ⟨Nat.le_trans hm h.len, fun id sz ver cs fz hlt hH => h.ids id sz ver cs fz (Nat.lt_of_lt_of_le hlt hm) hH, h.sub⟩

theorem ExtB.toExt {β β' : Nat → Option (Nat × Nat)} {H H' : List Ob} {S S' : Nat → Nat → Prop} (h : ExtB H.length β H S β' H' S') : Ext β H S β' H' S' := ⟨h.len, h.ids, h.sub⟩

/-- The state of a frame. -/
structure SR (Wr : Nat → Prop) (m : Nat) (sl : List D) (hp : List Ob) (β : Nat → Option (Nat × Nat)) (S : Nat → Nat → Prop) (a : Act) (w : World) : Prop where
  slots : RelDs β hp S w sl a.tmps.toList
  heap : HRel β hp S w Wr
  fresh : ∀ b, w.heap.size ≤ b → Wr b
  base : m ≤ hp.length
  defers : a.defers = []

/-- How a frame's state may have gone on. -/
structure Gone (Wr : Nat → Prop) (m : Nat) (hp : List Ob) (β : Nat → Option (Nat × Nat)) (S : Nat → Nat → Prop) (w : World) (hp' : List Ob) (β' : Nat → Option (Nat × Nat)) (S' : Nat → Nat → Prop) (w' : World) : Prop where
  ext : ExtB m β hp S β' hp' S'
  evo : Evo Wr S w w'
  only : ∀ b k, S' b k → S b k ∨ Wr b

theorem Gone.refl {Wr : Nat → Prop} {m : Nat} {hp : List Ob} {β : Nat → Option (Nat × Nat)} {S : Nat → Nat → Prop} {w : World} (h : m ≤ hp.length) : Gone Wr m hp β S w hp β S w :=
  ⟨ExtB.refl _ _ _ h, Evo.refl _ _ _, fun _ _ hh => .inl hh⟩

theorem Gone.trans {Wr : Nat → Prop} {m : Nat} {hp hp' hp'' : List Ob} {β β' β'' : Nat → Option (Nat × Nat)} {S S' S'' : Nat → Nat → Prop} {w w' w'' : World}
    (h : Gone Wr m hp β S w hp' β' S' w') (k : Gone Wr m hp' β' S' w' hp'' β'' S'' w'') : Gone Wr m hp β S w hp'' β'' S'' w'' :=
  ⟨h.ext.trans k.ext, h.evo.trans k.evo h.ext.sub, fun b j hs => by
    rcases k.only b j hs with hs | hs
    · exact h.only b j hs
    · exact .inr hs⟩

inductive Ex where
  | normal
  | ret
  | exit (id : Nat)

def Ex.to : Ex → Exit
  | .normal => .normal
  | .ret => .ret
  | .exit id => .exit id

/-- Code comes from states that are as the first to states that are as the second. -/
def Sim (P : Program) (m : Nat) (c : Code) (sl : List D) (hp : List Ob) (e : Ex) (sl' : List D) (hp' : List Ob) : Prop :=
  ∀ (Wr : Nat → Prop) (β : Nat → Option (Nat × Nat)) (S : Nat → Nat → Prop) (a : Act) (w : World) (Q : Exit → Act → World → Prop), SR Wr m sl hp β S a w →
    (∀ β' S' a' w', SR Wr m sl' hp' β' S' a' w' → Gone Wr m hp β S w hp' β' S' w' → Q e.to a' w') → c.wp P Q a w

/-- A loop that has begun. -/
def LoopWp (P : Program) (c : Code) (Q : Exit → Act → World → Prop) (a : Act) (w : World) : Prop :=
  ∀ (b : Frame) (k : List Item) (cs : List Frame), ∃ e a' w', Q e a' w' ∧ Arrives P (lone (b.at a (.code c :: .inLoop c :: k)) cs w) b k cs e a' w'

def SimL (P : Program) (m : Nat) (c : Code) (sl : List D) (hp : List Ob) (e : Ex) (sl' : List D) (hp' : List Ob) : Prop :=
  ∀ (Wr : Nat → Prop) (β : Nat → Option (Nat × Nat)) (S : Nat → Nat → Prop) (a : Act) (w : World) (Q : Exit → Act → World → Prop), SR Wr m sl hp β S a w →
    (∀ β' S' a' w', SR Wr m sl' hp' β' S' a' w' → Gone Wr m hp β S w hp' β' S' w' → Q e.to a' w') → LoopWp P c Q a w

theorem wp_of_loopWp {P : Program} {c : Code} {Q : Exit → Act → World → Prop} {a : Act} {w : World} (h : LoopWp P c Q a w) : (Code.loop c).wp P Q a w := fun b k cs => by
  obtain ⟨e, a', w', hq, harr⟩ := h b k cs
  exact ⟨e, a', w', hq, .of_steps (.one step_loop) harr⟩

theorem loopWp_step {P : Program} {c : Code} {Q : Exit → Act → World → Prop} {a : Act} {w : World} (h : c.wp P (Exit.then (LoopWp P c Q) Q) a w) : LoopWp P c Q a w := fun b k cs => by
  obtain ⟨e, a₁, w₁, hq, harr⟩ := h b (.inLoop c :: k) cs
  cases e with
  | normal =>
    obtain ⟨e₂, a₂, w₂, hq₂, harr₂⟩ := hq b k cs
    exact ⟨e₂, a₂, w₂, hq₂, .of_steps (Steps.trans harr (.one step_inLoop)) harr₂⟩
  | exit id => exact ⟨_, a₁, w₁, hq, .pass (x := .inLoop c) rfl (fun _ _ => .inl (by simp)) harr⟩
  | goto l => exact ⟨_, a₁, w₁, hq, .pass (x := .inLoop c) rfl (fun _ _ => .inl (by simp)) harr⟩
  | ret => exact ⟨_, a₁, w₁, hq, .pass (x := .inLoop c) rfl (fun _ _ => .inl (by simp)) harr⟩
  | panic ch => exact ⟨_, a₁, w₁, hq, .pass (x := .inLoop c) rfl (fun _ _ => .inl (by simp)) harr⟩
  | outgrown => exact ⟨_, a₁, w₁, hq, .pass (x := .inLoop c) rfl (fun _ _ => .inl (by simp)) harr⟩

/-- A round, and the rest. -/
theorem SimL.step {P : Program} {m : Nat} {c : Code} {sl sl1 sl2 : List D} {hp hp1 hp2 : List Ob} {e : Ex} (h : Sim P m c sl hp .normal sl1 hp1) (k : SimL P m c sl1 hp1 e sl2 hp2) : SimL P m c sl hp e sl2 hp2 :=
  fun Wr β S a w Q hs hq => loopWp_step (h Wr β S a w _ hs fun β' S' a' w' hs' hg => k Wr β' S' a' w' Q hs' fun β'' S'' a'' w'' hs'' hg' => hq β'' S'' a'' w'' hs'' (hg.trans hg'))

/-- The last round: it leaves. -/
theorem SimL.last {P : Program} {m : Nat} {c : Code} {sl sl2 : List D} {hp hp2 : List Ob} {e : Ex} (hn : e ≠ .normal) (h : Sim P m c sl hp e sl2 hp2) : SimL P m c sl hp e sl2 hp2 :=
  fun Wr β S a w Q hs hq => loopWp_step (h Wr β S a w _ hs fun β' S' a' w' hs' hg => by
    have := hq β' S' a' w' hs' hg
    cases e with
    | normal => exact absurd rfl hn
    | ret => exact this
    | exit id => exact this)

/-- What a function does: with what is kept H, and these arguments, it returns that, and what is kept is H' (the first of it as in H). -/
def Fn (P : Program) (f : FuncId) (H : List Ob) (args : List D) (res : D) (H' : List Ob) : Prop :=
  ∀ (β : Nat → Option (Nat × Nat)) (S : Nat → Nat → Prop) (w : World) (vals : Array Value) (Wr : Nat → Prop), HRel β H S w Wr → (∀ b, w.heap.size ≤ b → Wr b) → RelDs β H S w args vals.toList →
    Calls P f vals w fun e w' => ∃ v β' S', e = .returned v ∧ RelD β' H' S' w' res v ∧ HRel β' H' S' w' Wr ∧ Gone Wr H.length H β S w H' β' S' w'

end Go.Vm
