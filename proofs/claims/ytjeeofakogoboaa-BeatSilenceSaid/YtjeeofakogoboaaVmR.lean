/- The small machine's rounds of loops, and the words for what is owed. It states nothing of any program. -/
import Derived.Test.YtjeeofakogoboaaVmQ
namespace Go.Vm
set_option linter.unusedVariables false

def codeOf (fn : Func) : Code := fn.body.getD .skip

/-- The bodies of the loops of a piece of code, the outer ahead of the inner. -/
def loopsOf : Code → List Code
  | .seq a b => loopsOf a ++ loopsOf b
  | .cond _ a b => loopsOf a ++ loopsOf b
  | .block _ b => loopsOf b
  | .loop b => b :: loopsOf b
  | _ => []

def lp (fn : Func) (n : Nat) : Code := ((loopsOf (codeOf fn))[n]?).getD .skip

theorem owed0 : ∀ p ∈ ([] : List Prop), p := fun _ h => by cases h

theorem owed {p : Prop} {ps : List Prop} (h : p) (hs : ∀ q ∈ ps, q) : ∀ q ∈ p :: ps, q := fun q hq => by
  cases hq with
  | head => exact h
  | tail _ hq => exact hs q hq

def noSV : V → Bool
  | .one c => noS c
  | .agg cs => noSs cs
def noSVs : List V → Bool
  | [] => true
  | x :: xs => noSV x && noSVs xs
def noSD : D → Bool
  | .v x => noSV x
  | .tup xs => noSVs xs
  | .dead => true
def noSObs : List Ob → Bool
  | [] => true
  | .cells _ _ cs _ :: l => noSs cs && noSObs l
  | .gone :: l => noSObs l

/-- Nothing in it leads to what is only read. -/
theorem nosOf {d : D} {hp : List Ob} (h : (noSD d && noSObs hp) = true) : NoSD d ∧ ∀ ob ∈ hp, NoSOb ob := by
  simp only [Bool.and_eq_true] at h
  have hV : ∀ x, noSV x = true → NoSV x := fun x hx => by cases x <;> exact hx
  refine ⟨?_, ?_⟩
  · cases d with
    | v x => exact hV x h.1
    | tup xs =>
      intro x hx
      have h1 : noSVs xs = true := h.1
      induction xs with
      | nil => cases hx
      | cons y ys ih =>
        simp only [noSVs, Bool.and_eq_true] at h1
        cases hx with
        | head => exact hV _ h1.1
        | tail _ hx => exact ih ⟨h1.2, h.2⟩ hx h1.2
    | dead => trivial
  · have h2 := h.2
    clear h
    induction hp with
    | nil => intro ob hob; cases hob
    | cons o os ih =>
      intro ob hob
      cases o with
      | cells sz ver cs fz =>
        simp only [noSObs, Bool.and_eq_true] at h2
        cases hob with
        | head => exact fun c hc => noSs_mem.1 h2.1 c hc
        | tail _ hob => exact ih h2.2 ob hob
      | gone =>
        simp only [noSObs] at h2
        cases hob with
        | head => trivial
        | tail _ hob => exact ih h2 ob hob

theorem FnC.to {P : Program} {f : FuncId} {H H' H'' : List Ob} {args : List D} {res res' : D} (h : FnC P f H args res H') (e : res = res') (e' : H' = H'') : FnC P f H args res' H'' := by
  subst e; subst e'; exact h

/-- A round of a loop: its code runs, and what is not read later is forgotten. -/
def roundx (P : Program) (m : Nat) (b : Code) (sl : List D) (hp : List Ob) (nils : List (Nat × Nat)) (live order : List Nat) (ts : List Tell) : Option (Ex × List D × List Ob × List Prop) :=
  match exec P m b sl hp ts with
  | some (e, slx, hpx, ts', ps) => match ts' with
    | [] => match nilS nils slx hpx with
      | (sl1, hp1) => if order.Nodup ∧ order.all (fun id => decide (m ≤ id)) = true then some (e, gcS m live order 0 (rstS m hp1 sl1), gcH m order (rstH m hp1), ps) else none
    | _ => none
  | none => none

theorem roundx_sim {P : Program} (hmx : P.follows .mixedOrders = true) {m : Nat} {b : Code} {sl sl1 : List D} {hp hp1 : List Ob} {nils : List (Nat × Nat)} {live order : List Nat} {ts : List Tell} {e : Ex} {ps : List Prop}
    (h : roundx P m b sl hp nils live order ts = some (e, sl1, hp1, ps)) (hps : ∀ p ∈ ps, p) : Sim P m b sl hp e sl1 hp1 := by
  unfold roundx at h
  split at h
  · rename_i e' slx hpx ts' ps' hex
    split at h
    · generalize hn : nilS nils slx hpx = r at h
      obtain ⟨sla, hpa⟩ := r
      simp only at h
      split at h
      · rename_i hc
        simp only [Option.some.injEq, Prod.mk.injEq] at h
        obtain ⟨rfl, rfl, rfl, rfl⟩ := h
        have hw1 := Weak.nils (m := m) nils slx hpx
        rw [hn] at hw1
        have hw3 := Weak.rst (m := m) (sl := sla) (hp := hpa)
        have hw2 := Weak.gc (m := m) (sl := rstS m hpa sla) (hp := rstH m hpa) (live := live) hc.1 (fun id hid => by have := List.all_eq_true.1 hc.2 id hid; simpa using this)
        exact Sim.weakR (exec_sound hmx b sl hp ts _ _ _ _ _ hex hps) ((hw1.trans hw3).trans hw2)
      · cases h
    · cases h
  · cases h

theorem SimL.round {P : Program} (hmx : P.follows .mixedOrders = true) {m : Nat} {b : Code} {sl sl1 sl2 : List D} {hp hp1 hp2 : List Ob} {nils : List (Nat × Nat)} {live order : List Nat} {ts : List Tell} {e : Ex} {ps : List Prop}
    (h : roundx P m b sl hp nils live order ts = some (.normal, sl1, hp1, ps)) (hps : ∀ p ∈ ps, p) (k : SimL P m b sl1 hp1 e sl2 hp2) : SimL P m b sl hp e sl2 hp2 :=
  SimL.step (roundx_sim hmx h hps) k

theorem SimL.stop {P : Program} (hmx : P.follows .mixedOrders = true) {m : Nat} {b : Code} {sl sl1 : List D} {hp hp1 : List Ob} {nils : List (Nat × Nat)} {live order : List Nat} {ts : List Tell} {e : Nat} {ps : List Prop}
    (h : roundx P m b sl hp nils live order ts = some (exOf e, sl1, hp1, ps)) (hps : ∀ p ∈ ps, p) : SimL P m b sl hp (exOf e) sl1 hp1 :=
  SimL.last (by cases e <;> simp [exOf]) (roundx_sim hmx h hps)

theorem SimL.to {P : Program} {m : Nat} {b : Code} {sl sl2 sl2' : List D} {hp hp2 hp2' : List Ob} {e : Ex} (h : SimL P m b sl hp e sl2 hp2) (e1 : sl2 = sl2') (e2 : hp2 = hp2') : SimL P m b sl hp e sl2' hp2' := by
  subst e1; subst e2; exact h

theorem SimL.from {P : Program} {m : Nat} {b : Code} {sl sl' sl2 : List D} {hp hp' hp2 : List Ob} {e : Ex} (h : SimL P m b sl hp e sl2 hp2) (e1 : sl' = sl) (e2 : hp' = hp) : SimL P m b sl' hp' e sl2 hp2 := by
  subst e1; subst e2; exact h

end Go.Vm
