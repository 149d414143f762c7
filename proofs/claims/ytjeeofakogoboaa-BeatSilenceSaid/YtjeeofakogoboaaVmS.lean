/- The small machine's step, for a view of the slots. It states nothing of any program. -/
import Derived.Test.YtjeeofakogoboaaVmP
import Derived.Orders
namespace Go.Vm
set_option linter.unusedVariables false
set_option linter.unusedSimpArgs false

section
variable {P : Program} {Wr : Nat → Prop} {m : Nat} {sl : List D} {hp : List Ob} {β : Nat → Option (Nat × Nat)} {S : Nat → Nat → Prop} {a : Act} {w : World}

/-- An operation, a call of a function among them. -/
theorem stepx_put {ρ : Operand → D} {o : Oper} {ts ts' : List Tell} {d : D} {hp' : List Ob} {ps : List Prop} {Q : Exit → Act → World → Prop} {K : Act → World → Prop} (hH0 : HRel β hp S w Wr) (hfr0 : ∀ b, w.heap.size ≤ b → Wr b) (hρ : ∀ x, RelD β hp S w (ρ x) (a.eval x)) (h : stepx P o ρ hp ts = some (d, hp', ts', ps)) (hps : ∀ p ∈ ps, p)
    (hK : ∀ v β' S' w', RelD β' hp' S' w' d v → HRel β' hp' S' w' Wr → Ext β hp S β' hp' S' → Evo Wr S w w' → (∀ b k, S' b k → S b k ∨ Wr b) → K (a.put o.dst v) w') : o.wp P a w K Q := by
  have hop : ∀ (os' : List Or) (ps0 : List Prop), opx P o ρ hp (ors ts) = some (d, hp', os', ps0) → (∀ p ∈ ps0, p) → o.wp P a w K Q := by
    intro os' ps0 h1 h2
    obtain ⟨nx, v, w', β', r1, r2, r3, r4, r5, r6⟩ := opx_sound (ρv := a.eval) hH0 hfr0 hρ h1 h2
    have hk : K (a.put o.dst v) w' := hK v β' S w' r3 r4 r5 r6 (fun b k hh => .inl hh)
    unfold Oper.wp
    rw [r1]
    rcases r2 with rfl | ⟨rfl, rfl⟩
    · exact hk
    · exact hk
  unfold stepx at h
  split at h
  · rename_i c hoc
    split at h
    · rename_i fop hcal
      split at h
      · rename_i f caps pick lend frz eq res hp1 ts1 hfop
        split at h
        · rename_i args H0 hargs hH
          split at h
          · rename_i hnd
            simp only [Option.some.injEq, Prod.mk.injEq] at h
            obtain ⟨rfl, rfl, rfl, rfl⟩ := h
            obtain ⟨⟨hcall, hfn⟩, hns⟩ := owedCall_spec hps
            have hf : RelC β hp S w (.fn f caps) (a.eval fop) := rel_one (hρ fop) hfop
            simp only [RelC] at hf
            obtain ⟨us, hu, hcaps⟩ := hf
            have hall : RelDs β hp S w (c.args.toList.map ρ ++ caps.map one) ((c.args.map a.eval).toList ++ us.toList) := by
              have h1 : ∀ l : List Operand, RelDs β hp S w (l.map ρ) (l.map a.eval) := by
                intro l
                induction l with
                | nil => rfl
                | cons x l ih => exact ⟨_, _, rfl, hρ x, ih⟩
              have h2 : ∀ {cs : List C} {vs : List Value}, RelL β hp S w cs vs → RelDs β hp S w (cs.map one) vs := by
                intro cs
                induction cs with
                | nil => intro vs hh; simp only [RelL] at hh; exact hh
                | cons c cs ih =>
                  intro vs hh
                  simp only [RelL] at hh
                  obtain ⟨u, us', rfl, e2, e3⟩ := hh
                  exact ⟨u, us', rfl, e2, ih e3⟩
              have h3 : ∀ {ds es : List D} {us vs : List Value}, RelDs β hp S w ds us → RelDs β hp S w es vs → RelDs β hp S w (ds ++ es) (us ++ vs) := by
                intro ds
                induction ds with
                | nil => intro es us vs e1 e2; simp only [RelDs] at e1; subst e1; simpa using e2
                | cons d ds ih =>
                  intro es us vs e1 e2
                  obtain ⟨u, us', rfl, e3, e4⟩ := e1
                  exact ⟨u, us' ++ vs, rfl, e3, ih e4 e2⟩
              simpa using h3 (h1 c.args.toList) (h2 hcaps)
            have hvals := expDs_sound hH0 hH _ _ _ hall hargs
            have hready := call_ready hH0 hnd hH (lend := lend)
            have hfr : ∀ b, w.heap.size ≤ b → WC Wr β hp w pick b := fun b hb => ⟨hfr0 b hb, .inl hb⟩
            have hc := hfn _ _ w (c.args.map a.eval ++ us) (WC Wr β hp w pick) hready hfr (by simpa using hvals)
            have hexec : (execOp a.eval o).run P w = .ok (.enter f (c.args.map a.eval ++ us)) w := by
              simp [execOp, hoc, resolve, hcal, hu, Deferred.ofValue, invoke, hcall]
            unfold Oper.wp
            rw [hexec]
            rw [Oper.upon_enter]
            refine hc.mono ?_
            rintro e w' ⟨v, β', S', rfl, hres, hH', hgone⟩
            simp only
            obtain ⟨g1, g2, g3, g4⟩ := call_back hH0 hfr0 hnd hH hH' hgone (by rcases hns with hns | hns; exact .inl hns; exact .inr hns.2)
            obtain ⟨hl, hgt⟩ := expObs_get hH
            have hlt : ∀ id ∈ pick, id < hp.length := fun id hid => by
              obtain ⟨j, hj, rfl⟩ := List.mem_iff_getElem.1 hid
              obtain ⟨ob, _, q1, _⟩ := hgt j pick[j] (List.getElem?_eq_getElem hj)
              exact (List.getElem?_eq_some_iff.1 q1).1
            have hm : pick.length ≤ hp1.length := by rw [← hl]; exact hgone.ext.len
            have hr := impD_sound (β := β) (S := S) (lend := lend) (frz := frz) (W := WC Wr β hp w pick) hnd hlt hm res v hres (by rcases hns with hns | hns; exact .inl hns; exact .inr hns.1)
            exact hK v _ _ w' hr g1 g2 g3 g4
          · cases h
        · cases h
      · cases h
    · split at h
      · rename_i d1 hp1 os1 ps1 hopx
        simp only [Option.some.injEq, Prod.mk.injEq] at h
        obtain ⟨rfl, rfl, rfl, rfl⟩ := h
        exact hop _ _ hopx hps
      · cases h
  · split at h
    · rename_i d1 hp1 os1 ps1 hopx
      simp only [Option.some.injEq, Prod.mk.injEq] at h
      obtain ⟨rfl, rfl, rfl, rfl⟩ := h
      exact hop _ _ hopx hps
    · cases h


end
end Go.Vm
