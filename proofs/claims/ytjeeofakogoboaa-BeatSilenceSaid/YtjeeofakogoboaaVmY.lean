/- The small machine and the rows: what an argument reads as, and what a law's function says to its caller. It states nothing of any program. -/
import Derived.Test.YtjeeofakogoboaaVmR
import Derived.Carry
import Derived.OpenShut
namespace Go.Vm
open Go.RowKit
set_option linter.unusedVariables false
set_option linter.unusedSimpArgs false

/-- What lay there when the call began. -/
def Sb (w : World) (b o : Nat) : Prop := b < w.heap.size

/-- What a type's data reads as. -/
def Opens (P : Program) (t : TypeId) (A : List C → Prop) : Prop :=
  ∀ (H : Type) (enc : TypeId × Value → H) (w : World) (n : Nat) (cs : List Value) (x : DataW H × List MemPlace), DataW.trod enc P w 0 (fun _ => true) true n t cs = some x → ∃ ccs, A ccs ∧ RelPL (Sb w) w ccs cs

theorem opens_int {P : Program} {t : TypeId} {k : IntKind} (ht : P.underlying t = some (.int k)) : Opens P t (fun c => ∃ z, c = [.sc (.int k z)] ∧ (Lit.int k z).wf = true) := by
  intro H enc w n cs x h
  obtain ⟨z, rfl, _, hw⟩ := DataW.trod_int ht h
  exact ⟨_, ⟨z, rfl, hw⟩, by simp only [RelPL, RelP]; exact ⟨_, _, rfl, ⟨rfl, rfl⟩, rfl⟩⟩

theorem opens_bool {P : Program} {t : TypeId} (ht : P.underlying t = some .bool) : Opens P t (fun c => ∃ z, c = [.sc (.bool z)]) := by
  intro H enc w n cs x h
  obtain ⟨z, rfl, _⟩ := DataW.trod_bool ht h
  exact ⟨_, ⟨z, rfl⟩, by simp only [RelPL, RelP]; exact ⟨_, _, rfl, ⟨rfl, rfl⟩, rfl⟩⟩

theorem opens_string {P : Program} {t : TypeId} (ht : P.underlying t = some .string) : Opens P t (fun c => ∃ s : ByteArray, c = [.sc (.string s)] ∧ s.size ≤ maxLen) := by
  intro H enc w n cs x h
  obtain ⟨z, rfl, _, hw⟩ := DataW.trod_string ht h
  exact ⟨_, ⟨z, rfl, hw⟩, by simp only [RelPL, RelP]; exact ⟨_, _, rfl, ⟨rfl, rfl⟩, rfl⟩⟩

theorem relAt_append {S : Nat → Nat → Prop} {w : World} : ∀ {cs ds : List C} {b o : Nat}, RelAt S w cs b o → RelAt S w ds b (o + cs.length) → RelAt S w (cs ++ ds) b o
  | [], ds, b, o, _, h => by simpa using h
  | c :: cs, ds, b, o, h1, h2 => by
    simp only [RelAt] at h1
    simp only [List.cons_append, RelAt]
    exact ⟨h1.1, h1.2.1, relAt_append h1.2.2 (by simpa [Nat.add_assoc, Nat.add_comm 1] using h2)⟩

theorem relAt_of {w : World} {b : Nat} (hb : b < w.heap.size) : ∀ {cs : List C} {us : List Value} {o : Nat}, RelPL (Sb w) w cs us → (∀ i, i < us.length → w.cell? ⟨b, o + i, none⟩ = us[i]?) → RelAt (Sb w) w cs b o
  | [], us, o, _, _ => by simp only [RelAt]
  | c :: cs, us, o, h, hc => by
    simp only [RelPL] at h
    obtain ⟨u, us', rfl, h1, h2⟩ := h
    simp only [RelAt]
    refine ⟨hb, ⟨u, by simpa using hc 0 (by simp), h1⟩, relAt_of hb h2 fun i hi => ?_⟩
    have := hc (i + 1) (by simpa using hi)
    simpa [Nat.add_assoc, Nat.add_comm 1] using this

theorem relPL_length {S : Nat → Nat → Prop} {w : World} : ∀ {cs : List C} {us : List Value}, RelPL S w cs us → us.length = cs.length
  | [], us, h => by simp only [RelPL] at h; simp [h]
  | c :: cs, us, h => by
    simp only [RelPL] at h
    obtain ⟨u, us', rfl, _, h2⟩ := h
    simp [relPL_length h2]

theorem add_block (a : Addr) (k : Nat) : (a.add k).block = a.block := by unfold Addr.add; split <;> rfl
theorem add_add {a : Addr} (h : a.spot = none) (k j : Nat) : (a.add k).add j = ⟨a.block, a.off + k + j, none⟩ := by
  cases a
  simp only at h
  subst h
  unfold Addr.add
  split <;> split <;> simp_all

theorem opens_slice {P : Program} {t e : TypeId} {A : List C → Prop} (ht : P.underlying t = some (.slice e)) (he : Opens P e A) (hpos : 0 < P.cellsOf e) :
    Opens P t (fun c => ∃ L : List (List C), (∀ g ∈ L, A g ∧ g.length = P.cellsOf e) ∧ c = [.sl L.length L.flatten]) := by
  intro H enc w n cs x h
  rcases DataW.trod_slice ht h with ⟨rfl, _⟩ | ⟨a, len, cap, elems, rest, n, _, rfl, _, _, hle, _, hlen, hel, _⟩
  · exact ⟨_, ⟨[], by simp, rfl⟩, by simp only [RelPL, RelP]; exact ⟨_, _, rfl, ⟨none, 0, rfl, Nat.le_refl _, .inl ⟨rfl, rfl⟩⟩, rfl⟩⟩
  · have hsp : 0 < len → a.spot = none := by
      intro hi
      have h1 := hel 0 hi
      have h2 : elems[0]? = some elems[0] := List.getElem?_eq_getElem (by omega)
      rw [h2] at h1
      obtain ⟨vs, hv, _⟩ := Option.bind_eq_some_iff.1 h1
      obtain ⟨_, hvl, hcell⟩ := World.cells?_some hv
      have h0 := hcell 0 hpos
      have hv0 : vs[0]? = some vs[0] := List.getElem?_eq_getElem (by omega)
      rw [hv0] at h0
      have e0 : (a.add (0 * P.cellsOf e)).add 0 = a := by simp [Addr.add]
      rw [e0] at h0
      unfold World.cell? at h0
      split at h0
      · split at h0
        · cases h0
        · rename_i hns
          cases hq : a.spot with
          | none => rfl
          | some k => rw [hq] at hns; exact absurd rfl hns
      · cases h0
    have hone : ∀ i, i < len → ∃ g, A g ∧ g.length = P.cellsOf e ∧ a.spot = none ∧ RelAt (Sb w) w g a.block (a.off + i * P.cellsOf e) := by
      intro i hi
      have h1 := hel i hi
      have h2 : elems[i]? = some elems[i] := List.getElem?_eq_getElem (by omega)
      rw [h2] at h1
      obtain ⟨vs, hv, hr⟩ := Option.bind_eq_some_iff.1 h1
      obtain ⟨g, hA, hg⟩ := he H enc w n vs _ hr
      obtain ⟨_, hvl, hcell⟩ := World.cells?_some hv
      have hb := World.cells?_block hv hpos
      rw [add_block] at hb
      have hs0 := hsp (by omega)
      refine ⟨g, hA, by have := relPL_length hg; omega, hs0, relAt_of hb hg fun j hj => ?_⟩
      have := hcell j (by omega)
      rw [← this, add_add hs0]
    have hall : ∀ k, k ≤ len → ∃ L : List (List C), L.length = k ∧ (∀ g ∈ L, A g ∧ g.length = P.cellsOf e) ∧ (0 < k → a.spot = none) ∧ RelAt (Sb w) w L.flatten a.block (a.off + (len - k) * P.cellsOf e) := by
      intro k
      induction k with
      | zero => intro _; exact ⟨[], rfl, by simp, by simp, by simp [RelAt]⟩
      | succ k ih =>
        intro hk
        obtain ⟨L, e1, e2, e3, e4⟩ := ih (by omega)
        obtain ⟨g, g1, g2, g3, g4⟩ := hone (len - (k + 1)) (by omega)
        refine ⟨g :: L, by simp [e1], fun x hx => ?_, fun _ => g3, ?_⟩
        · cases hx with
          | head => exact ⟨g1, g2⟩
          | tail _ hx => exact e2 x hx
        · rw [List.flatten_cons]
          refine relAt_append g4 ?_
          rw [g2]
          have : a.off + (len - (k + 1)) * P.cellsOf e + P.cellsOf e = a.off + (len - k) * P.cellsOf e := by
            rw [show len - k = (len - (k + 1)) + 1 by omega, Nat.add_mul]; omega
          rw [this]
          exact e4
    obtain ⟨L, e1, e2, e3, e4⟩ := hall len (Nat.le_refl _)
    refine ⟨_, ⟨L, e2, rfl⟩, ?_⟩
    simp only [RelPL, RelP]
    refine ⟨_, _, rfl, ⟨some a, cap, by rw [e1], by omega, ?_⟩, rfl⟩
    by_cases hz : len = 0
    · have : L = [] := List.eq_nil_of_length_eq_zero (by omega)
      subst this
      exact .inl ⟨rfl, rfl⟩
    · refine .inr ⟨a.block, a.off, ?_, by simpa using e4⟩
      have := e3 (by omega)
      cases a
      simp only at this
      subst this
      rfl

/-- A law's function that keeps nothing: what it returns, and that the caller's world is as it was. -/
theorem calls_of_fnC {P : Program} {f : FuncId} {args : List D} {b : Bool} (h : FnC P f [] args (vBool b) []) {w : World} {vals : Array Value}
    (hr : RelDs (fun _ => none) [] (Sb w) w args vals.toList) : Calls P f vals w fun e w' => e = .returned (.bool b) ∧ Below w.heap.size w w' := by
  refine (h.2 (fun _ => none) (Sb w) w vals (fun b => w.heap.size ≤ b) ⟨fun id sz ver cs fz h => by simp at h, fun id id' _ _ _ _ _ _ _ _ _ _ _ h => by simp at h, fun _ _ hh => hh⟩ (fun b hb => hb) hr).mono ?_
  rintro e w' ⟨v, β', S', rfl, h1, h2, h3⟩
  refine ⟨?_, h3.evo.os, h3.evo.tape, h3.evo.output, h3.evo.size, fun k hk => h3.evo.block k hk (by omega)⟩
  have : RelD β' [] S' w' (.v (.one (.sc (.bool b)))) v := h1
  rw [rel_bool this]

/-- An argument of one cell. -/
theorem arg_one {P : Program} {t : TypeId} {A : List C → Prop} (ho : Opens P t A) {H : Type} {enc : TypeId × Value → H} {w : World} {v : Value} {d : DataW H} {p : List MemPlace} (hv : ∀ cs, v ≠ .agg cs) (h : DataW.Trod enc P w 0 (fun _ => true) true t v d p) :
    ∃ ccs, A ccs ∧ ∀ c, ccs = [c] → RelD (fun _ => none) [] (Sb w) w (.v (.one c)) v := by
  obtain ⟨n, hn⟩ := h
  obtain ⟨ccs, hA, hr⟩ := ho H enc w n _ _ hn
  refine ⟨ccs, hA, fun c hc => ?_⟩
  subst hc
  have hcells : v.cells.toList = [v] := by cases v <;> first | rfl | exact absurd rfl (hv _)
  rw [hcells] at hr
  simp only [RelPL] at hr
  obtain ⟨u, us, e1, e2, _⟩ := hr
  injection e1 with e1 _
  subst e1
  exact RelP.rel c v e2

theorem okWide_slice {P : Program} {w : World} {r : Go.Reach} {base : Nat} {t e : TypeId} {v : Value} (ht : P.underlying t = some (.slice e)) (h : Value.okWide P w r base t v) : ∀ cs, v ≠ .agg cs := by
  intro cs hcs
  subst hcs
  simp only [Value.okWide, ht, Cell.okWide, Cell.ok] at h

theorem agg_of {P : Program} {w : World} {r : Go.Reach} {base : Nat} {t : TypeId} {v : Value} {fs : Array Field} (ht : P.underlying t = some (.struct fs)) (h : Value.okWide P w r base t v) : ∃ cs, v = .agg cs ∧ cs.size = P.cellsOf t := by
  unfold Value.okWide at h
  rw [ht] at h
  obtain ⟨cs, h1, h2, _⟩ := h
  exact ⟨cs, h1, h2⟩

theorem map_of {α β : Type} {f : α → β} : ∀ {L : List β}, (∀ g ∈ L, ∃ z, g = f z) → ∃ Z : List α, L = Z.map f
  | [], _ => ⟨[], rfl⟩
  | g :: L, h => by
    obtain ⟨z, rfl⟩ := h g (.head _)
    obtain ⟨Z, rfl⟩ := map_of fun g hg => h g (.tail _ hg)
    exact ⟨z :: Z, rfl⟩

theorem flat_one {α β : Type} {f : α → β} : ∀ Z : List α, (Z.map fun z => [f z]).flatten = Z.map f
  | [] => rfl
  | z :: Z => by simp [flat_one Z]

end Go.Vm
