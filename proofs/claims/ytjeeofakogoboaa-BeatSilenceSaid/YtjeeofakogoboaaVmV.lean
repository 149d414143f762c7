/- The small machine and regions that draw their order: each order comes to the same, whole. It states nothing of any program. -/
import Derived.Test.YtjeeofakogoboaaVmU
namespace Go.Vm
set_option linter.unusedVariables false
set_option linter.unusedSimpArgs false

/-- The operations of some numbers, one behind the other. -/
def Runs (P : Program) (ops : Array Oper) (T : List Ent) : List Nat → List D → List Ob → List D → List Ob → Prop
  | [], sl, hp, sl', hp' => sl' = sl ∧ hp' = hp
  | i :: l, sl, hp, sl', hp' => ∃ x sl1 hp1, T[i]? = some x ∧ StepOK P ops x sl hp sl1 hp1 ∧ Runs P ops T l sl1 hp1 sl' hp'

def indepAt (ops : Array Oper) (T : List Ent) (i j : Nat) : Bool := match T[i]?, T[j]? with | some x, some y => indep ops x y | _, _ => false

theorem Runs.front {P : Program} {ops : Array Oper} {T : List Ent} {j : Nat} {l2 : List Nat} : ∀ (l1 : List Nat) {sl sl' : List D} {hp hp' : List Ob}, (∀ i ∈ l1, indepAt ops T i j = true) → Runs P ops T (l1 ++ j :: l2) sl hp sl' hp' →
    ∃ y sl1 hp1, T[j]? = some y ∧ StepOK P ops y sl hp sl1 hp1 ∧ Runs P ops T (l1 ++ l2) sl1 hp1 sl' hp'
  | [], sl, sl', hp, hp', _, h => h
  | i :: l1, sl, sl', hp, hp', hi, h => by
    obtain ⟨x, sl1, hp1, e1, e2, e3⟩ := h
    obtain ⟨y, sl2, hp2, f1, f2, f3⟩ := Runs.front l1 (fun k hk => hi k (.tail _ hk)) e3
    have hin := hi i (.head _)
    unfold indepAt at hin
    rw [e1, f1] at hin
    obtain ⟨sl3, hp3, g1, g2⟩ := swap hin e2 f2
    exact ⟨y, sl3, hp3, f1, g1, x, sl2, hp2, e1, g2, f3⟩

/-- Do these numbers' operations bear any order that goes behind what each comes after? -/
def pairOk (ops : Array Oper) (T : List Ent) (cl : List Nat) (i j : Nat) : Bool := ((cl[j]?).getD 0).testBit i || indepAt ops T i j

theorem anyRuns {P : Program} {Wr : Nat → Prop} {m : Nat} {ops : Array Oper} {T : List Ent} {cl : List Nat} {sl' : List D} {hp' : List Ob} {Q : Exit → Act → World → Prop}
    (hT : ∀ (i : Nat) x, T[i]? = some x → ops[i]? = some x.o ∧ plOk m x.pl = true ∧ ∀ p ∈ x.ps, p)
    (hcl : ∀ (j b : Nat), cl[j]? = some b → ∀ i, b.testBit i = true → Reach ops i j)
    (hb : ∀ (j : Nat) o, ops[j]? = some o → ∀ k ∈ bound o, k < j) :
    ∀ (fuel : Nat) (l : List Nat) (listed : Array Bool) (sl : List D) (hp : List Ob) (β : Nat → Option (Nat × Nat)) (S : Nat → Nat → Prop) (a : Act) (w : World),
      l.length ≤ fuel → listed.size = ops.size → (∀ i, i ∈ l ↔ (i < ops.size ∧ listed.getD i false = false)) → l.Pairwise (· < ·) → l.Pairwise (fun i j => pairOk ops T cl i j = true) →
      (∀ j o, ops[j]? = some o → listed.getD j false = true → ∀ k ∈ bound o, listed.getD k false = true) →
      Runs P ops T l sl hp sl' hp' → SR Wr m sl hp β S a w →
      (∀ β' S' a' w', SR Wr m sl' hp' β' S' a' w' → Gone Wr m hp β S w hp' β' S' w' → Q .normal a' w') → wpAny P .any ops Q fuel listed a w := by
  have hready : ∀ (l : List Nat) (listed : Array Bool), listed.size = ops.size → (∀ i, i ∈ l ↔ (i < ops.size ∧ listed.getD i false = false)) → l.Pairwise (· < ·) → Region.ready .any ops listed = [] → l = [] := by
    intro l listed hsz hl hlt hr
    cases l with
    | nil => rfl
    | cons i l =>
      exfalso
      obtain ⟨h1, h2⟩ := (hl i).1 (.head _)
      have hmem : i ∈ Region.ready .any ops listed := by
        rw [mem_ready]
        refine ⟨?_, ops[i], Array.getElem?_eq_getElem h1, fun e he hbd => ?_⟩
        · have : i < listed.size := by omega
          simp [Array.getElem?_eq_getElem this] at h2 ⊢
          exact h2
        · have hk : e.on ∈ bound ops[i] := by
            unfold bound
            exact List.mem_map.2 ⟨e, List.mem_filter.2 ⟨by simpa using he, hbd⟩, rfl⟩
          have hki := hb i _ (Array.getElem?_eq_getElem h1) _ hk
          cases hq : listed.getD e.on false with
          | true => rfl
          | false =>
            have hin := (hl e.on).2 ⟨by omega, hq⟩
            cases hin with
            | head => omega
            | tail _ hin =>
              have := (List.pairwise_cons.1 hlt).1 _ hin
              omega
      rw [hr] at hmem
      cases hmem
  intro fuel
  induction fuel with
  | zero =>
    intro l listed sl hp β S a w hlen hsz hl hlt hpw hdn hrun hs hQ
    have hl0 : l = [] := List.eq_nil_of_length_eq_zero (by omega)
    subst hl0
    obtain ⟨rfl, rfl⟩ := hrun
    refine ⟨?_, hQ β S a w hs (Gone.refl hs.base)⟩
    cases hr : Region.ready .any ops listed with
    | nil => rfl
    | cons i rs =>
      have hi : i ∈ Region.ready .any ops listed := by rw [hr]; exact .head _
      rw [mem_ready] at hi
      obtain ⟨h1, o, ho, _⟩ := hi
      have hlt := (Array.getElem?_eq_some_iff.1 ho).1
      have : i ∈ ([] : List Nat) := (hl i).2 ⟨hlt, by
        have h3 : i < listed.size := by omega
        simp [Array.getElem?_eq_getElem h3] at h1 ⊢
        exact h1⟩
      cases this
  | succ fuel ih =>
    intro l listed sl hp β S a w hlen hsz hl hlt hpw hdn hrun hs hQ
    refine ⟨fun hr => ?_, fun j hj => ?_⟩
    · have hl0 := hready l listed hsz hl hlt hr
      subst hl0
      obtain ⟨rfl, rfl⟩ := hrun
      exact hQ β S a w hs (Gone.refl hs.base)
    · obtain ⟨h1, o, ho, hall⟩ := mem_ready.1 hj
      have hjlt := (Array.getElem?_eq_some_iff.1 ho).1
      have hjl : listed.getD j false = false := by
        have h3 : j < listed.size := by omega
        simp [Array.getElem?_eq_getElem h3] at h1 ⊢
        exact h1
      have hjm : j ∈ l := (hl j).2 ⟨hjlt, hjl⟩
      obtain ⟨l1, l2, rfl⟩ := List.append_of_mem hjm
      have hdirect : ∀ k ∈ bound o, listed.getD k false = true := fun k hk => by
        unfold bound at hk
        obtain ⟨e, he, rfl⟩ := List.mem_map.1 hk
        obtain ⟨he1, he2⟩ := List.mem_filter.1 he
        exact hall e (by simpa using he1) he2
      have hreach : ∀ i j', Reach ops i j' → (∀ o', ops[j']? = some o' → ∀ k ∈ bound o', listed.getD k false = true) → listed.getD i false = true := by
        intro i j' hre
        induction hre with
        | one h1 h2 => intro h3; exact h3 _ h1 _ h2
        | more h1 h2 _ ih2 => intro h3; exact ih2 fun o' ho' => hdn _ o' ho' (h3 _ h1 _ h2)
      have hin : ∀ i ∈ l1, indepAt ops T i j = true := fun i hi => by
        have hp0 : pairOk ops T cl i j = true := (List.pairwise_append.1 hpw).2.2 i hi j (.head _)
        unfold pairOk at hp0
        simp only [Bool.or_eq_true] at hp0
        rcases hp0 with hp0 | hp0
        · exfalso
          cases hq : cl[j]? with
          | none => rw [hq] at hp0; simp at hp0
          | some b =>
            rw [hq] at hp0
            have hli := hreach i j (hcl j b hq i hp0) (fun o' ho' => by rw [ho] at ho'; cases ho'; exact hdirect)
            have := ((hl i).1 (List.mem_append_left _ hi)).2
            rw [hli] at this
            cases this
        · exact hp0
      obtain ⟨y, sl1, hp1, f1, f2, f3⟩ := Runs.front l1 hin hrun
      obtain ⟨t1, t2, t3⟩ := hT j y f1
      have hnd : (l1 ++ j :: l2).Nodup := hlt.imp (fun h he => by omega)
      refine stepOK_sound hs t1 t2 f2 t3 fun β1 S1 a1 w1 hs1 hg1 => ?_
      refine ih (l1 ++ l2) _ sl1 hp1 β1 S1 a1 w1 (by simp at hlen ⊢; omega) (by simpa using hsz) (fun i => ?_) (hlt.sublist (by simp)) (hpw.sublist (by simp)) ?_ f3 hs1 (fun β' S' a' w' hs' hg' => hQ β' S' a' w' hs' (hg1.trans hg'))
      · by_cases hij : i = j
        · subst hij
          have hn : i ∉ l1 ++ l2 := by
            rw [List.nodup_append] at hnd
            obtain ⟨_, n2, n3⟩ := hnd
            intro hm
            rcases List.mem_append.1 hm with hm | hm
            · exact n3 i hm i (.head _) rfl
            · exact (List.nodup_cons.1 n2).1 hm
          refine ⟨fun hm => absurd hm hn, fun hh => ?_⟩
          have h3 : i < listed.size := by omega
          rw [Array.getD_eq_getD_getElem?, Array.getElem?_setIfInBounds_self_of_lt h3] at hh
          simp at hh
        · have hne : (listed.setIfInBounds j true).getD i false = listed.getD i false := getD_set_ne false (fun h => hij h.symm)
          rw [hne, ← hl i]
          simp only [List.mem_append, List.mem_cons]
          constructor
          · rintro (h | h)
            · exact .inl h
            · exact .inr (.inr h)
          · rintro (h | h | h)
            · exact .inl h
            · exact absurd h hij
            · exact .inr h
      · intro j' o' ho' hlj k hk
        by_cases hjj : j' = j
        · subst hjj
          rw [ho] at ho'
          cases ho'
          exact getD_set_true (hdirect k hk)
        · rw [getD_set_ne false (fun h => hjj h.symm)] at hlj
          exact getD_set_true (hdn j' o' ho' hlj k hk)

end Go.Vm
