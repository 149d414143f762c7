/- A machine of plain data, part 4: what Go's code does, told by functions that Lean reckons out. It states nothing of any program. -/
import Derived.Test.YtjeeofakogoboaaTp3
namespace Go.Tm
open Go.Vm
set_option linter.unusedVariables false
set_option linter.unusedSimpArgs false

def condAt (c : Bool) (s : St) (A B : Out) (k : Nat) : Option (Nat × G × St) := (Out.mergeEx c s (look A.ex k) (look B.ex k)).map fun x => (k, x)

theorem condAt_key (c : Bool) (s : St) (A B : Out) : ∀ k p, condAt c s A B k = some p → p.1 = k := fun k p h => by
  unfold condAt at h
  obtain ⟨x, _, rfl⟩ := Option.map_eq_some_iff.1 h
  rfl

theorem merge_look (c : Bool) (s : St) (A B : Out) (k : Nat) : look (Out.merge c s A B).ex k = Out.mergeEx c s (look A.ex k) (look B.ex k) := by
  have : (Out.merge c s A B).ex = (unionKeys (A.ex.map (·.1)) (B.ex.map (·.1))).filterMap (condAt c s A B) := rfl
  rw [this, look_filterMap (condAt_key c s A B)]
  have hmap : (condAt c s A B k).map (·.2) = Out.mergeEx c s (look A.ex k) (look B.ex k) := by
    unfold condAt
    cases Out.mergeEx c s (look A.ex k) (look B.ex k) <;> rfl
  split
  · exact hmap
  · rename_i hk
    rw [union_mem] at hk
    cases h1 : look A.ex k with
    | some x => exact absurd (.inl (look_key h1)) hk
    | none =>
      cases h2 : look B.ex k with
      | some x => exact absurd (.inr (look_key h2)) hk
      | none => rfl

section
variable {P : Program} {N : Nat} {s : St}

theorem mergeEx_grows {c : Bool} {A B : Out} (hA : ∀ k g s', look A.ex k = some (g, s') → Grows s s') (hB : ∀ k g s', look B.ex k = some (g, s') → Grows s s') {k : Nat} {g : G} {s' : St} (h : Out.mergeEx c s (look A.ex k) (look B.ex k) = some (g, s')) : Grows s s' := by
  cases h1 : look A.ex k with
  | none =>
    cases h2 : look B.ex k with
    | none => rw [h1, h2] at h; cases h
    | some y =>
      rw [h1, h2] at h
      simp only [Out.mergeEx, Option.some.injEq, Prod.mk.injEq] at h
      obtain ⟨_, rfl⟩ := h
      exact hB _ _ _ h2
  | some x =>
    cases h2 : look B.ex k with
    | none =>
      rw [h1, h2] at h
      simp only [Out.mergeEx, Option.some.injEq, Prod.mk.injEq] at h
      obtain ⟨_, rfl⟩ := h
      exact hA _ _ _ h1
    | some y =>
      rw [h1, h2] at h
      simp only [Out.mergeEx, Option.some.injEq, Prod.mk.injEq] at h
      obtain ⟨_, rfl⟩ := h
      exact mergeSt_grows _ _ _ _

theorem sound_cond {c : Operand} {a b : Code} {A B : Out} (hA : Sound P N a s A) (hB : Sound P N b s B) {g : G} {v : Bool} (hc : (evl s c).need = (g, .pure .bool v)) :
    Sound P N (.cond c a b) s (Out.checked s ⟨.and g (Out.merge v s A B).ok, (Out.merge v s A B).ex⟩) := by
  have hlook := merge_look v s A B
  refine sound_checked (fun k g' s' hk => ?_) fun hok hnx loc β H S act w Wr own0 n0 Q hb hs hQ => ?_
  · simp only at hk
    rw [hlook] at hk
    exact mergeEx_grows (fun k g s' h => (hA.grows k g s' h).1) (fun k g s' h => (hB.grows k g s' h).1) hk
  · have hok' : (G.and g (Out.merge v s A B).ok).val = true := hok
    rw [G.and_val, Bool.and_eq_true] at hok'
    have hokm : (G.ite v A.ok B.ok).val = true := hok'.2
    rw [G.ite_val] at hokm
    have hcv : act.eval c = .bool v := rel_bool (need_rel hc hok'.1 (evl_rel hs.slots c))
    have hat : ∀ i, Out.at ⟨.and g (Out.merge v s A B).ok, (Out.merge v s A B).ex⟩ i = match Out.mergeEx v s (look A.ex i) (look B.ex i) with | some (g, _) => g.val | none => false := fun i => by
      unfold Out.at
      simp only
      rw [hlook]
      all_goals (cases Out.mergeEx v s (look A.ex i) (look B.ex i) <;> rfl)
    refine wp_cond_split hcv (fun hv => ?_) (fun hv => ?_)
    · subst hv
      refine hA.runs hokm loc β H S act w Wr own0 n0 Q hb hs fun k g' s' hk hgv ho β' H' S' loc' a' w' hs' hgo hf hbl => ?_
      have hoth : ∀ i, i ≠ k → Out.at ⟨.and g (Out.merge true s A B).ok, (Out.merge true s A B).ex⟩ i = false := fun i hi => by
        rw [hat]
        have hAi := ho i hi
        cases h1 : look A.ex i with
        | none => cases h2 : look B.ex i with
          | none => rfl
          | some y => simp only [Out.mergeEx]; rw [G.and_val]; exact Bool.and_false _
        | some x =>
          rw [at_some h1] at hAi
          cases h2 : look B.ex i with
          | none => simp only [Out.mergeEx, G.and_val, hAi, Bool.false_and]
          | some y => simp only [Out.mergeEx, G.ite_val, cond_true]; exact hAi
      cases h2 : look B.ex k with
      | none =>
        refine hQ k (.and g' (.of true)) s' (by rw [hlook, hk, h2]; rfl) (by rw [G.and_val, hgv]; rfl) hoth β' H' S' loc' a' w' hs' hgo hf
      | some y =>
        obtain ⟨gb, sb⟩ := y
        have hgs := hA.grows _ _ _ hk
        obtain ⟨loc3, β3, H3, S3, k1, k2, k3⟩ := merge_go (c := true) (a0 := s') (b0 := sb) (X := s') rfl hgs.1 (hB.grows _ _ _ h2).1 hs' hbl hgo hf hgs.2
        exact hQ k (G.ite true g' gb) (mergeSt true s s' sb) (by rw [hlook, hk, h2]; rfl) (by rw [G.ite_val]; exact hgv) hoth β3 H3 S3 loc3 a' w' k1 k2 k3
    · subst hv
      refine hB.runs hokm loc β H S act w Wr own0 n0 Q hb hs fun k g' s' hk hgv ho β' H' S' loc' a' w' hs' hgo hf hbl => ?_
      have hoth : ∀ i, i ≠ k → Out.at ⟨.and g (Out.merge false s A B).ok, (Out.merge false s A B).ex⟩ i = false := fun i hi => by
        rw [hat]
        have hBi := ho i hi
        cases h2 : look B.ex i with
        | none => cases h1 : look A.ex i with
          | none => rfl
          | some y => simp only [Out.mergeEx]; rw [G.and_val]; exact Bool.and_false _
        | some x =>
          rw [at_some h2] at hBi
          cases h1 : look A.ex i with
          | none => simp only [Out.mergeEx, G.and_val, hBi, Bool.false_and]
          | some y => simp only [Out.mergeEx, G.ite_val, cond_false]; exact hBi
      cases h1 : look A.ex k with
      | none =>
        refine hQ k (.and g' (.of true)) s' (by rw [hlook, hk, h1]; rfl) (by rw [G.and_val, hgv]; rfl) hoth β' H' S' loc' a' w' hs' hgo hf
      | some y =>
        obtain ⟨ga, sa⟩ := y
        have hgs := hB.grows _ _ _ hk
        obtain ⟨loc3, β3, H3, S3, k1, k2, k3⟩ := merge_go (c := false) (a0 := sa) (b0 := s') (X := s') rfl (hA.grows _ _ _ h1).1 hgs.1 hs' hbl hgo hf hgs.2
        exact hQ k (G.ite false ga g') (mergeSt false s sa s') (by rw [hlook, hk, h1]; rfl) (by rw [G.ite_val]; exact hgv) hoth β3 H3 S3 loc3 a' w' k1 k2 k3

def blockOut (id : Nat) (s : St) (o : Out) : Out := match look o.ex (exX id) with
  | none => o
  | some (h, t) => match look o.ex exN with
    | none => ⟨o.ok, (exN, h, t) :: o.ex.filter fun x => !Nat.beq x.1 exN && !Nat.beq x.1 (exX id)⟩
    | some (g, u) => Out.checked s ⟨o.ok, (exN, .or g h, mergeSt g.val s u t) :: o.ex.filter fun x => !Nat.beq x.1 exN && !Nat.beq x.1 (exX id)⟩

theorem G.or_val {g h : G} : (G.or g h).val = (g.val || h.val) := by
  cases g <;> cases h <;> simp [G.or, G.val]

theorem inBlock_ne {id k : Nat} (hk : k ≠ exX id) {Q : Exit → Act → World → Prop} {a : Act} {w : World} : Exit.inBlock id Q (exitOf k) a w = Q (exitOf k) a w := by
  match k with
  | 0 => rfl
  | 1 => rfl
  | j + 2 =>
    show (if j = id then _ else _) = _
    rw [if_neg (fun h => hk (by rw [h]; rfl))]; rfl

theorem inBlock_eq {id : Nat} {Q : Exit → Act → World → Prop} {a : Act} {w : World} : Exit.inBlock id Q (exitOf (exX id)) a w = Q .normal a w := by
  show (if id = id then _ else _) = _
  rw [if_pos rfl]

theorem rest_look (l : List (Nat × G × St)) (id q : Nat) : look (l.filter fun x => !Nat.beq x.1 exN && !Nat.beq x.1 (exX id)) q = if q = exN ∨ q = exX id then none else look l q := by
  rw [look_filter (fun k => !Nat.beq k exN && !Nat.beq k (exX id))]
  by_cases h1 : q = exN
  · subst h1; simp [Nat.beq_refl]
  · by_cases h2 : q = exX id
    · subst h2; simp [Nat.beq_refl]
    · have e1 : Nat.beq q exN = false := by cases hb : Nat.beq q exN; rfl; exact absurd (Nat.eq_of_beq_eq_true hb) h1
      have e2 : Nat.beq q (exX id) = false := by cases hb : Nat.beq q (exX id); rfl; exact absurd (Nat.eq_of_beq_eq_true hb) h2
      rw [e1, e2, if_pos (show (!false && !false) = true from rfl), if_neg (by intro h; cases h with | inl h => exact h1 h | inr h => exact h2 h)]

theorem sound_block {b : Code} {id : Nat} {o : Out} (h : Sound P N b s o) : Sound P N (.block id b) s (blockOut id s o) := by
  have hXN : exN ≠ exX id := by unfold exN exX; omega
  unfold blockOut
  cases hX : look o.ex (exX id) with
  | none =>
    refine ⟨h.grows, fun hok loc β H S act w Wr own0 n0 Q hb hs hQ => wp_block (h.runs hok loc β H S act w Wr own0 n0 _ hb hs fun k g s' hk hg ho β' H' S' loc' a' w' hs' hgo hf hbl => ?_)⟩
    rw [inBlock_ne (fun he => by subst he; rw [hX] at hk; cases hk)]
    exact hQ k g s' hk hg ho β' H' S' loc' a' w' hs' hgo hf hbl
  | some y =>
    obtain ⟨hh, t⟩ := y
    have hgt := h.grows _ _ _ hX
    simp only
    cases hN : look o.ex exN with
    | none =>
      have hlk : ∀ q, look ((exN, hh, t) :: o.ex.filter fun x => !Nat.beq x.1 exN && !Nat.beq x.1 (exX id)) q = if q = exN then some (hh, t) else if q = exX id then none else look o.ex q := fun q => by
        rw [look_cons, rest_look]
        by_cases h1 : q = exN
        · subst h1; simp
        · rw [if_neg (fun h => h1 h.symm), if_neg h1]
          by_cases h2 : q = exX id
          · simp [h2]
          · simp [h1, h2]
      refine ⟨fun k g s' hk => ?_, fun hok loc β H S act w Wr own0 n0 Q hb hs hQ => wp_block (h.runs hok loc β H S act w Wr own0 n0 _ hb hs fun k g s' hk hg ho β' H' S' loc' a' w' hs' hgo hf hbl => ?_)⟩
      · simp only at hk
        rw [hlk] at hk
        split at hk
        · simp only [Option.some.injEq, Prod.mk.injEq] at hk
          obtain ⟨_, rfl⟩ := hk
          exact hgt
        · split at hk
          · cases hk
          · exact h.grows _ _ _ hk
      · by_cases hkX : k = exX id
        · subst hkX
          rw [hX] at hk
          obtain ⟨rfl, rfl⟩ : hh = g ∧ t = s' := by injection hk with h; injection h with h1 h2; exact ⟨h1, h2⟩
          rw [inBlock_eq]
          refine hQ exN hh t (by rw [hlk, if_pos rfl]) hg (fun j hj => ?_) β' H' S' loc' a' w' hs' hgo hf hbl
          unfold Out.at
          simp only
          rw [hlk, if_neg hj]
          by_cases hjX : j = exX id
          · rw [if_pos hjX]
          · rw [if_neg hjX]; exact ho j hjX
        · rw [inBlock_ne hkX]
          have hk0 : k ≠ exN := fun he => by subst he; rw [hN] at hk; cases hk
          refine hQ k g s' (by rw [hlk, if_neg hk0, if_neg hkX]; exact hk) hg (fun j hj => ?_) β' H' S' loc' a' w' hs' hgo hf hbl
          unfold Out.at
          simp only
          rw [hlk]
          by_cases hj0 : j = exN
          · rw [if_pos hj0]; simp only; rw [← at_some hX]; exact ho _ (fun h => hkX h.symm)
          · rw [if_neg hj0]
            by_cases hjX : j = exX id
            · rw [if_pos hjX]
            · rw [if_neg hjX]; exact ho j hj
    | some x =>
      obtain ⟨g0, u⟩ := x
      have hgu := h.grows _ _ _ hN
      simp only
      have hlk : ∀ q, look ((exN, .or g0 hh, mergeSt g0.val s u t) :: o.ex.filter fun x => !Nat.beq x.1 exN && !Nat.beq x.1 (exX id)) q = if q = exN then some (.or g0 hh, mergeSt g0.val s u t) else if q = exX id then none else look o.ex q := fun q => by
        rw [look_cons, rest_look]
        by_cases h1 : q = exN
        · subst h1; simp
        · rw [if_neg (fun h => h1 h.symm), if_neg h1]
          by_cases h2 : q = exX id
          · simp [h2]
          · simp [h1, h2]
      refine sound_checked (fun k g s' hk => ?_) fun hok hnx loc β H S act w Wr own0 n0 Q hb hs hQ => wp_block (h.runs hok loc β H S act w Wr own0 n0 _ hb hs fun k g s' hk hg ho β' H' S' loc' a' w' hs' hgo hf hbl => ?_)
      · simp only at hk
        rw [hlk] at hk
        split at hk
        · simp only [Option.some.injEq, Prod.mk.injEq] at hk
          obtain ⟨_, rfl⟩ := hk
          exact mergeSt_grows _ _ _ _
        · split at hk
          · cases hk
          · exact (h.grows _ _ _ hk).1
      · have hoN : ∀ {j}, (∀ i, i ≠ k → o.at i = false) → k = exN ∨ k = exX id → j ≠ exN → Out.at ⟨o.ok, (exN, .or g0 hh, mergeSt g0.val s u t) :: o.ex.filter fun x => !Nat.beq x.1 exN && !Nat.beq x.1 (exX id)⟩ j = false := fun {j} ho hk hj => by
          unfold Out.at
          simp only
          rw [hlk, if_neg hj]
          by_cases hjX : j = exX id
          · rw [if_pos hjX]
          · rw [if_neg hjX]
            rcases hk with rfl | rfl
            · exact ho j hj
            · exact ho j hjX
        by_cases hkX : k = exX id
        · subst hkX
          rw [hX] at hk
          obtain ⟨rfl, rfl⟩ : hh = g ∧ t = s' := by injection hk with h; injection h with h1 h2; exact ⟨h1, h2⟩
          rw [inBlock_eq]
          have hgf : g0.val = false := by rw [← at_some hN]; exact ho exN hXN
          obtain ⟨loc3, β3, H3, S3, k1, k2, k3⟩ := merge_go (c := g0.val) (a0 := u) (b0 := t) (X := t) (by rw [hgf]; rfl) hgu.1 hgt.1 hs' hbl hgo hf hgt.2
          exact hQ exN (.or g0 hh) (mergeSt g0.val s u t) (by rw [hlk, if_pos rfl]) (by rw [G.or_val, hg, Bool.or_true]) (fun j hj => hoN ho (.inr rfl) hj) β3 H3 S3 loc3 a' w' k1 k2 k3
        · rw [inBlock_ne hkX]
          by_cases hk0 : k = exN
          · subst hk0
            rw [hN] at hk
            obtain ⟨rfl, rfl⟩ : g0 = g ∧ u = s' := by injection hk with h; injection h with h1 h2; exact ⟨h1, h2⟩
            obtain ⟨loc3, β3, H3, S3, k1, k2, k3⟩ := merge_go (c := g0.val) (a0 := u) (b0 := t) (X := u) (by rw [hg]; rfl) hgu.1 hgt.1 hs' hbl hgo hf hgu.2
            exact hQ exN (.or g0 hh) (mergeSt g0.val s u t) (by rw [hlk, if_pos rfl]) (by rw [G.or_val, hg, Bool.true_or]) (fun j hj => hoN ho (.inl rfl) hj) β3 H3 S3 loc3 a' w' k1 k2 k3
          · refine hQ k g s' (by rw [hlk, if_neg hk0, if_neg hkX]; exact hk) hg (fun j hj => ?_) β' H' S' loc' a' w' hs' hgo hf
            unfold Out.at
            simp only
            rw [hlk]
            by_cases hj0 : j = exN
            · rw [if_pos hj0]; simp only [G.or_val]
              rw [← at_some hN, ← at_some hX, ho _ (fun h => hk0 h.symm), ho _ (fun h => hkX h.symm)]; rfl
            · rw [if_neg hj0]
              by_cases hjX : j = exX id
              · rw [if_pos hjX]
              · rw [if_neg hjX]; exact ho j hj

/-- Behind a test that is known. -/
theorem sound_when {c : Code} {A B : Out} {v : Bool} (gA : ∀ k g s', look A.ex k = some (g, s') → Grows s s' ∧ s.nx ≤ s'.nx) (gB : ∀ k g s', look B.ex k = some (g, s') → Grows s s' ∧ s.nx ≤ s'.nx) (hA : v = true → Sound P N c s A) (hB : v = false → Sound P N c s B) :
    Sound P N c s (Out.checked s (Out.merge v s A B)) := by
  have hlook := merge_look v s A B
  refine sound_checked (fun k g' s' hk => ?_) fun hok hnx loc β H S act w Wr own0 n0 Q hb hs hQ => ?_
  · rw [hlook] at hk
    exact mergeEx_grows (fun k g s' h => (gA k g s' h).1) (fun k g s' h => (gB k g s' h).1) hk
  · have hokm : (G.ite v A.ok B.ok).val = true := hok
    rw [G.ite_val] at hokm
    have hat : ∀ i, Out.at (Out.merge v s A B) i = match Out.mergeEx v s (look A.ex i) (look B.ex i) with | some (g, _) => g.val | none => false := fun i => by
      unfold Out.at
      rw [hlook]
      all_goals (cases Out.mergeEx v s (look A.ex i) (look B.ex i) <;> rfl)
    cases v with
    | true =>
      refine (hA rfl).runs hokm loc β H S act w Wr own0 n0 Q hb hs fun k g' s' hk hgv ho β' H' S' loc' a' w' hs' hgo hf hbl => ?_
      have hoth : ∀ i, i ≠ k → Out.at (Out.merge true s A B) i = false := fun i hi => by
        rw [hat]
        have hAi := ho i hi
        cases h1 : look A.ex i with
        | none => cases h2 : look B.ex i with
          | none => rfl
          | some y => simp only [Out.mergeEx]; rw [G.and_val]; exact Bool.and_false _
        | some x =>
          rw [at_some h1] at hAi
          cases h2 : look B.ex i with
          | none => simp only [Out.mergeEx, G.and_val, hAi, Bool.false_and]
          | some y => simp only [Out.mergeEx, G.ite_val, cond_true]; exact hAi
      cases h2 : look B.ex k with
      | none =>
        refine hQ k (.and g' (.of true)) s' (by rw [hlook, hk, h2]; rfl) (by rw [G.and_val, hgv]; rfl) hoth β' H' S' loc' a' w' hs' hgo hf
      | some y =>
        obtain ⟨gb, sb⟩ := y
        have hgs := gA _ _ _ hk
        obtain ⟨loc3, β3, H3, S3, k1, k2, k3⟩ := merge_go (c := true) (a0 := s') (b0 := sb) (X := s') rfl hgs.1 (gB _ _ _ h2).1 hs' hbl hgo hf hgs.2
        exact hQ k (G.ite true g' gb) (mergeSt true s s' sb) (by rw [hlook, hk, h2]; rfl) (by rw [G.ite_val]; exact hgv) hoth β3 H3 S3 loc3 a' w' k1 k2 k3
    | false =>
      refine (hB rfl).runs hokm loc β H S act w Wr own0 n0 Q hb hs fun k g' s' hk hgv ho β' H' S' loc' a' w' hs' hgo hf hbl => ?_
      have hoth : ∀ i, i ≠ k → Out.at (Out.merge false s A B) i = false := fun i hi => by
        rw [hat]
        have hBi := ho i hi
        cases h2 : look B.ex i with
        | none => cases h1 : look A.ex i with
          | none => rfl
          | some y => simp only [Out.mergeEx]; rw [G.and_val]; exact Bool.and_false _
        | some x =>
          rw [at_some h2] at hBi
          cases h1 : look A.ex i with
          | none => simp only [Out.mergeEx, G.and_val, hBi, Bool.false_and]
          | some y => simp only [Out.mergeEx, G.ite_val, cond_false]; exact hBi
      cases h1 : look A.ex k with
      | none =>
        refine hQ k (.and g' (.of true)) s' (by rw [hlook, hk, h1]; rfl) (by rw [G.and_val, hgv]; rfl) hoth β' H' S' loc' a' w' hs' hgo hf
      | some y =>
        obtain ⟨ga, sa⟩ := y
        have hgs := gB _ _ _ hk
        obtain ⟨loc3, β3, H3, S3, k1, k2, k3⟩ := merge_go (c := false) (a0 := sa) (b0 := s') (X := s') rfl (gA _ _ _ h1).1 hgs.1 hs' hbl hgo hf hgs.2
        exact hQ k (G.ite false ga g') (mergeSt false s sa s') (by rw [hlook, hk, h1]; rfl) (by rw [G.ite_val]; exact hgv) hoth β3 H3 S3 loc3 a' w' k1 k2 k3

/-- The same state, said in other words (or less of it). -/
structure Same (s s' : St) : Prop where
  slots : ∀ (t : Nat) (loc : Loc) (β : Nat → Option (Nat × Nat)) (H : List Ob) (S : Nat → Nat → Prop) (w : World) (v : Value), RelD β H S w (encD s loc (s.slot t)) v → RelD β H S w (encD s loc (s'.slot t)) v
  names : ∀ t, ∀ q ∈ (s'.slot t).names, q ∈ (s.slot t).names
  roots : ∀ r, s'.root r = s.root r
  nx : s'.nx = s.nx
  grows : Grows s s'

theorem Same.refl (s : St) : Same s s := ⟨fun _ _ _ _ _ _ _ h => h, fun _ _ h => h, fun _ => rfl, rfl, Grows.refl s⟩

theorem Same.trans {a b c : St} (h : Same a b) (k : Same b c) : Same a c := by
  refine ⟨fun t loc β H S w v hv => ?_, fun t q hq => h.names t q (k.names t q hq), fun r => (k.roots r).trans (h.roots r), k.nx.trans h.nx, h.grows.trans k.grows⟩
  have hr : ∀ r, (b.root r).like (a.root r) := fun r => by rw [h.roots r]; exact HE.like.rfl _
  have := k.slots t loc β H S w v (by rw [encD_congr hr]; exact h.slots t loc β H S w v hv)
  rwa [encD_congr hr] at this

theorem Same.put' {s : St} {t : Nat} {x : T} (h : ∀ (loc : Loc) (β : Nat → Option (Nat × Nat)) (H : List Ob) (S : Nat → Nat → Prop) (w : World) (v : Value), RelD β H S w (encD s loc (s.slot t)) v → RelD β H S w (encD s loc x) v) (hn : ∀ q ∈ x.names, q ∈ (s.slot t).names) : Same s (s.put (some t) x) := by
  refine ⟨fun q loc β H S w v hv => ?_, fun q => ?_, fun r => root_put _ _ _ _, rfl, Grows.put _ _ _⟩
  · rw [slot_put]; split
    · rename_i hq; subst hq; exact h loc β H S w v hv
    · exact hv
  · rw [slot_put]; split
    · rename_i hq; subst hq; exact hn
    · exact fun _ h => h

theorem Same.put {s : St} {t : Nat} {x : T} (h : ∀ loc, encD s loc x = encD s loc (s.slot t)) (hn : x.names = (s.slot t).names) : Same s (s.put (some t) x) :=
  Same.put' (fun loc β H S w v hv => by rw [h]; exact hv) (fun q hq => by rw [← hn]; exact hq)

theorem Same.sr {s s' : St} (h : Same s s') {loc : Loc} {β : Nat → Option (Nat × Nat)} {H : List Ob} {S : Nat → Nat → Prop} {act : Act} {w : World} {Wr : Nat → Prop} {own0 : Nat → Prop} {n0 : Nat} (hs : SR N s loc β H S act w Wr own0 n0) : SR N s' loc β H S act w Wr own0 n0 := by
  have hr : ∀ r, (s'.root r).like (s.root r) := fun r => by rw [h.roots r]; exact HE.like.rfl _
  exact ⟨fun t => by rw [encD_congr hr]; exact h.slots t loc β H S w _ (hs.slots t), Heap.congr hr hs.heap, hs.defers, hs.size⟩

theorem Same.below {s s' : St} (h : Same s s') {n : Nat} (hb : Below s n) : Below s' n := fun hi => by
  have hc := hb hi
  exact ⟨fun t r hr => hc.slots t r (h.names t r hr), fun r h1 h2 => by rw [h.roots]; exact hc.roots r h1 h2, fun r ty x hx => hc.vars r ty x (by rw [← h.roots]; exact hx)⟩

theorem drops_same : ∀ (l : List Nat) (s : St), Same s (drops l s)
  | [], s => Same.refl s
  | t :: l, s => (Same.put' (x := .undef) (fun _ _ _ _ _ _ _ => True.intro) (fun q hq => nomatch hq)).trans (drops_same l _)

theorem unknow_same : ∀ (l : List Nat) (s : St), Same s (unknow l s)
  | [], s => Same.refl s
  | t :: l, s => (Same.put (fun loc => encD_unCst _) (unCst_names _)).trans (unknow_same l _)

theorem back_same {dead : List Nat} {n t : Nat} {k : IntKind} {z : (Ty.int k).den} {j : Int} (hz : z = j) (s : St) : Same s (back dead n t k z j s) := by
  unfold back backOn
  refine (drops_same dead s).trans ?_
  generalize drops dead s = s
  refine Same.trans ?_ (unknow_same _ _)
  split
  · rename_i k' j' hs
    split
    · rename_i hc
      rw [Bool.and_eq_true, decide_eq_true_eq, decide_eq_true_eq] at hc
      obtain ⟨rfl, rfl⟩ := hc
      refine Same.put (fun loc => ?_) (by rw [hs]; rfl)
      rw [hs, hz]; exact encD_unCst (s := s) (loc := loc) (.cst (.int k' j'))
    · exact Same.put (fun loc => by rw [hs]; exact encD_unCst (s := s) (loc := loc) (.cst (.int k' j'))) (by rw [hs]; rfl)
  · exact Same.refl s

theorem back_grows {dead : List Nat} {n t : Nat} {k : IntKind} {z : (Ty.int k).den} {j : Int} (s : St) : Grows s (back dead n t k z j s) ∧ (back dead n t k z j s).nx = s.nx := by
  have h0 := drops_same dead s
  suffices h : Grows (drops dead s) (back dead n t k z j s) ∧ (back dead n t k z j s).nx = (drops dead s).nx from ⟨h0.grows.trans h.1, h.2.trans h0.nx⟩
  unfold back backOn
  generalize drops dead s = s
  split
  · split
    · exact ⟨(Grows.put _ _ _).trans (unknow_same _ _).grows, (unknow_same _ _).nx⟩
    · exact ⟨(Grows.put _ _ _).trans (unknow_same _ _).grows, (unknow_same _ _).nx⟩
  · exact ⟨(unknow_same _ _).grows, (unknow_same _ _).nx⟩

theorem look_mapv {α β : Type} (f : α → β) (q : Nat) : ∀ l : List (Nat × α), look (l.map fun x => (x.1, f x.2)) q = (look l q).map f
  | [] => rfl
  | (k, x) :: l => by
    rw [List.map_cons, look_cons, look_cons, look_mapv f q l]
    split <;> rfl

theorem knowing_look (B : St → Out) (dead : List Nat) (s : St) (t : Nat) (k : IntKind) (z : (Ty.int k).den) (j : Int) (q : Nat) : look (knowing B dead s t k z j).ex q = (look (B (s.put (some t) (.cst (.int k j)))).ex q).map fun x => (x.1, back dead s.sl.length t k z j x.2) := by
  unfold knowing
  exact look_mapv (fun x : G × St => (x.1, back dead s.sl.length t k z j x.2)) q _

theorem knowing_grows {dead : List Nat} {c : Code} {B : St → Out} {t : Nat} {k : IntKind} {z : (Ty.int k).den} {j : Int} (hB : Sound P N c (s.put (some t) (.cst (.int k j))) (B (s.put (some t) (.cst (.int k j))))) : ∀ q g s', look (knowing B dead s t k z j).ex q = some (g, s') → Grows s s' ∧ s.nx ≤ s'.nx := fun q g s' h => by
  rw [knowing_look, Option.map_eq_some_iff] at h
  obtain ⟨⟨g1, s1⟩, h1, h2⟩ := h
  simp only [Prod.mk.injEq] at h2
  obtain ⟨rfl, rfl⟩ := h2
  obtain ⟨k1, k2⟩ := hB.grows _ _ _ h1
  obtain ⟨m1, m2⟩ := back_grows (dead := dead) (n := s.sl.length) (t := t) (z := z) (j := j) s1
  exact ⟨((Grows.put _ _ _).trans k1).trans m1, by rw [m2]; exact k2⟩

theorem sound_knowing {dead : List Nat} {c : Code} {B : St → Out} {t : Nat} {k : IntKind} {z : (Ty.int k).den} {j : Int} (hB : Sound P N c (s.put (some t) (.cst (.int k j))) (B (s.put (some t) (.cst (.int k j))))) (ht : s.slot t = .pure (.int k) z) (hz : z = j) : Sound P N c s (knowing B dead s t k z j) where
  grows := knowing_grows hB
  runs := fun hok loc β H S a w Wr own0 n0 Q hb hs hQ => by
    have hsame : Same s (s.put (some t) (.cst (.int k j))) := Same.put (fun loc => by
      rw [ht, hz]; exact (encD_unCst (s := s) (loc := loc) (.cst (.int k j))).symm) (by rw [ht]; rfl)
    refine hB.runs hok loc β H S a w Wr own0 n0 Q (hsame.below hb) (hsame.sr hs) fun q g s' hk hgv ho β' H' S' loc' a' w' hs' hgo hf hbl => ?_
    have hbk := back_same (dead := dead) (n := s.sl.length) (t := t) hz s'
    refine hQ q g (back dead s.sl.length t k z j s') (by rw [knowing_look, hk]; rfl) hgv (fun i hi => ?_) β' H' S' loc' a' w' (hbk.sr hs') hgo (fun r hr hl => ?_) (by rw [hbk.nx]; exact hbk.below hbl)
    · have := ho i hi
      unfold Out.at at this ⊢
      rw [knowing_look]
      cases h1 : look (B (s.put (some t) (.cst (.int k j)))).ex i with
      | none => rfl
      | some x => rw [h1] at this; exact this
    · rw [hbk.roots] at hl ⊢
      have := hf r hr hl
      rw [root_put] at this
      exact this

theorem sound_from {dead : List Nat} {c : Code} {B : St → Out} {t : Nat} {k : IntKind} {z : (Ty.int k).den} (hB : ∀ j : Int, Sound P N c (s.put (some t) (.cst (.int k j))) (B (s.put (some t) (.cst (.int k j))))) (ht : s.slot t = .pure (.int k) z) : ∀ n j : Nat, Sound P N c s (splitFrom B dead s t k z j n)
  | 0, j => sound_bad
  | 1, j => by
    have hg := knowing_grows (dead := dead) (hB (Int.ofNat j)) (z := z)
    unfold splitFrom
    refine ⟨hg, fun hok loc β H S a w Wr own0 n0 Q hb hs hQ => ?_⟩
    have hok : (G.and (.of (iEq z (iLit k (Int.ofNat j)))) (knowing B dead s t k z (Int.ofNat j)).ok).val = true := hok
    rw [G.and_val, Bool.and_eq_true] at hok
    have hz : z = Int.ofNat j := by have := hok.1; simpa [G.val, iEq, iLit] using this
    exact (sound_knowing (hB _) ht hz).runs hok.2 loc β H S a w Wr own0 n0 Q hb hs hQ
  | n + 2, j => by
    unfold splitFrom
    have hr := sound_from (dead := dead) hB ht (n + 1) (j + 1)
    exact sound_when (knowing_grows (hB _)) hr.grows (fun hv => sound_knowing (hB _) ht (by simpa [iEq, iLit] using hv)) (fun _ => hr)

theorem sound_splits {dead : List Nat} {c : Code} {B : St → Out} (hB : ∀ s, Sound P N c s (B s)) : ∀ (l : List (Nat × Nat)) (s : St), Sound P N c s (splits B dead l s)
  | [], s => hB s
  | (t, n) :: l, s => by
    unfold splits
    split
    · rename_i k z ht
      exact sound_from (fun j => sound_splits hB l _) ht n 0
    · exact sound_splits hB l s

end
end Go.Tm

namespace Go.Tm
open Go.Vm
set_option linter.unusedVariables false
set_option linter.unusedSimpArgs false

theorem HL.of_leaves : ∀ (ts : List Ty) (l : List Leaf) (x : HL ts), HL.of ts l = some x → HL.leaves ts x = l
  | [], [], x, h => rfl
  | [], _ :: _, x, h => by cases h
  | t :: ts, [], x, h => by cases h
  | t :: ts, ⟨t', v⟩ :: l, x, h => by
    unfold HL.of at h
    split at h
    · rename_i ht
      subst ht
      split at h
      · rename_i r hr
        injection h with h
        subst h
        show ⟨t', v⟩ :: HL.leaves ts r = _
        rw [HL.of_leaves ts l r hr]
      · cases h
    · cases h

theorem plugP_like : ∀ (p q : List Step) (l : List Leaf), likeP p q = true → plugP p (leavesP q ++ l) = some (q, l)
  | [], [], l, _ => rfl
  | [], _ :: _, l, h => by cases h
  | .U :: p, q, l, h => by
    cases q with
    | nil => cases h
    | cons s q =>
      cases s <;> first | cases h | skip
      show (match plugP p (leavesP q ++ l) with | some (q, l') => some (Step.U :: q, l') | none => none) = _
      rw [plugP_like p q l h]
  | .L :: p, q, l, h => by
    cases q with
    | nil => cases h
    | cons s q =>
      cases s <;> first | cases h | skip
      show (match plugP p (leavesP q ++ l) with | some (q, l') => some (Step.L :: q, l') | none => none) = _
      rw [plugP_like p q l h]
  | .R k :: p, q, l, h => by
    cases q with
    | nil => cases h
    | cons s q =>
      cases s with
      | R k' =>
        have h : (Nat.beq k k' && likeP p q) = true := h
        rw [Bool.and_eq_true] at h
        have hk := Nat.eq_of_beq_eq_true h.1
        subst hk
        show (match plugP p (leavesP q ++ l) with | some (q, l') => some (Step.R k :: q, l') | none => none) = _
        rw [plugP_like p q l h.2]
      | _ => cases h
  | .ix i sz :: p, q, l, h => by
    cases q with
    | nil => cases h
    | cons s q =>
      cases s with
      | ix i' sz' =>
        have h : (Nat.beq sz sz' && likeP p q) = true := h
        rw [Bool.and_eq_true] at h
        have hk := Nat.eq_of_beq_eq_true h.1
        subst hk
        show (match plugP p (leavesP q ++ l) with | some (q, l') => some (Step.ix i' sz :: q, l') | none => none) = _
        rw [plugP_like p q l h.2]
      | _ => cases h

theorem and2 {a b : Bool} (h : (a && b) = true) : a = true ∧ b = true := by rwa [Bool.and_eq_true] at h
theorem beq2 {a b : Nat} (h : Nat.beq a b = true) : a = b := Nat.eq_of_beq_eq_true h

theorem plug_like : ∀ (x y : T) (l : List Leaf), x.like y = true → x.plug (y.leaves ++ l) = some (y, l)
  | .pure t v, y, l, h => by
    cases y <;> first | cases h | skip
    rename_i t' v'
    have ht : t' = t := by simpa [T.like] using h
    subst ht
    show (if h : t' = t' then some (T.pure t' (castD h v'), l) else none) = _
    rw [dif_pos rfl]; rfl
  | .cst v, y, l, h => by
    cases y <;> first | cases h | skip
    rename_i v'
    have := sameNil_eq (show sameNil v v' = true from h)
    subst this
    rfl
  | .row x, y, l, h => by
    cases y <;> first | cases h | skip
    rename_i y
    show (match x.plug (y.leaves ++ l) with | some (y, l') => some (T.row y, l') | none => none) = _
    rw [plug_like x y l h]
  | .pair a b, y, l, h => by
    cases y <;> first | cases h | skip
    rename_i c d
    obtain ⟨h1, h2⟩ := and2 (show (a.like c && b.like d) = true from h)
    show (match a.plug ((c.leaves ++ d.leaves) ++ l) with | some (x, l1) => (match b.plug l1 with | some (y, l2) => some (T.pair x y, l2) | none => none) | none => none) = _
    rw [List.append_assoc, plug_like a c _ h1]
    simp only
    rw [plug_like b d l h2]
  | .own r sz, y, l, h => by
    cases y <;> first | cases h | skip
    rename_i r' sz'
    obtain ⟨h1, h2⟩ := and2 (show (Nat.beq r r' && Nat.beq sz sz') = true from h)
    rw [beq2 h1, beq2 h2]; rfl
  | .sref r sz lo n, y, l, h => by
    cases y <;> first | cases h | skip
    rename_i r' sz' lo' n'
    obtain ⟨h1, h2⟩ := and2 (show (Nat.beq r r' && Nat.beq sz sz') = true from h)
    rw [beq2 h1, beq2 h2]; rfl
  | .ptr r p, y, l, h => by
    cases y <;> first | cases h | skip
    rename_i r' q
    obtain ⟨h1, h2⟩ := and2 (show (Nat.beq r r' && likeP p q) = true from h)
    rw [beq2 h1]
    show (match plugP p (leavesP q ++ l) with | some (q, l') => some (T.ptr r' q, l') | none => none) = _
    rw [plugP_like p q l h2]
  | .loc t L p, y, l, h => by
    cases y <;> first | cases h | skip
    rename_i t' L' q
    obtain ⟨h1, h2⟩ := and2 (show (decide (t' = t) && likeP p q) = true from h)
    have ht : t' = t := by simpa using h1
    subst ht
    show (if h : Ty.fl t' = .fl t' then match plugP p (leavesP q ++ l) with | some (q, l') => some (T.loc t' (castD h L') q, l') | none => none else none) = _
    rw [dif_pos rfl, plugP_like p q l h2]; rfl
  | .fn f x, y, l, h => by
    cases y <;> first | cases h | skip
    rename_i f' y
    obtain ⟨h1, h2⟩ := and2 (show (Nat.beq f f' && x.like y) = true from h)
    rw [beq2 h1]
    show (match x.plug (y.leaves ++ l) with | some (y, l') => some (T.fn f' y, l') | none => none) = _
    rw [plug_like x y l h2]
  | .tup x, y, l, h => by
    cases y <;> first | cases h | skip
    rename_i y
    show (match x.plug (y.leaves ++ l) with | some (y, l') => some (T.tup y, l') | none => none) = _
    rw [plug_like x y l h]
  | .may g x, y, l, h => by
    cases y <;> first | cases h | skip
    rename_i g' y
    show (match x.plug (y.leaves ++ l) with | some (y, l') => some (T.may (toB g') y, l') | none => none) = _
    rw [plug_like x y l h]
  | .undef, y, l, h => by
    cases y <;> first | cases h | skip
    simp only [T.leaves, List.nil_append, T.plug]

/-- Is it not to be written, by its shape. -/
def Rt.as : Rt → Rt → Rt
  | .arr _ _ fz, .arr t L _ => .arr t L fz
  | _, y => y

theorem plugR_like : ∀ (x y : Rt) (l : List Leaf), x.like y = true → x.plug (y.leaves ++ l) = some (x.as y, l)
  | .var ty x, y, l, h => by
    cases y <;> first | cases h | skip
    rename_i ty' y
    obtain ⟨h1, h2⟩ := and2 (show (Nat.beq ty ty' && (x.like y && y.solid)) = true from h)
    rw [beq2 h1]
    show (match x.plug (y.leaves ++ l) with | some (y, l') => some (Rt.var ty' y, l') | none => none) = _
    rw [plug_like x y l (and2 h2).1]; rfl
  | .arr t L fz, y, l, h => by
    cases y <;> first | cases h | skip
    rename_i t' L' fz'
    obtain ⟨h1, h2⟩ := and2 (show (decide (t' = t) && (!fz' || fz)) = true from h)
    have ht : t' = t := by simpa using h1
    subst ht
    show (if h : Ty.fl t' = .fl t' then some (Rt.arr t' (castD h L') fz, l) else none) = _
    rw [dif_pos rfl]; rfl
  | .gone, y, l, h => by cases y <;> cases h

theorem plugTs_like : ∀ (xs ys : List T) (l : List Leaf), xs.length = ys.length → (∀ (i : Nat) (x y : T), xs[i]? = some x → ys[i]? = some y → x.like y = true) → plugTs xs (ys.flatMap T.leaves ++ l) = some (ys, l)
  | [], [], l, _, _ => rfl
  | [], _ :: _, l, h, _ => by cases h
  | _ :: _, [], l, h, _ => by cases h
  | x :: xs, y :: ys, l, h, hl => by
    show (match x.plug ((y.leaves ++ ys.flatMap T.leaves) ++ l) with | some (y, l1) => (match plugTs xs l1 with | some (ys, l2) => some (y :: ys, l2) | none => none) | none => none) = _
    rw [List.append_assoc, plug_like x y _ (hl 0 x y rfl rfl)]
    simp only
    rw [plugTs_like xs ys l (by simpa using h) (fun i a b ha hb => hl (i + 1) a b (by simpa using ha) (by simpa using hb))]

/-- What matching values leads to. -/
theorem matchTs_some {ps : List (Nat × Nat)} : ∀ (sks xs : List T) (g : G) (lv : List Leaf), matchTs ps sks xs = some (g, lv) → g.val = true → ∀ l,
    plugTs sks (lv ++ l) = some (xs.map fun x => renT (renBy ps) x.need.2, l) ∧ sks.length = xs.length ∧ ∀ x ∈ xs, x.need.1.val = true ∧ ∀ q ∈ x.need.2.names, q ∈ ps.map (·.2)
  | [], [], g, lv, h, hg, l => by
    simp only [matchTs, Option.some.injEq, Prod.mk.injEq] at h
    obtain ⟨rfl, rfl⟩ := h
    exact ⟨rfl, rfl, fun x hx => by cases hx⟩
  | [], _ :: _, g, lv, h, hg, l => by cases h
  | _ :: _, [], g, lv, h, hg, l => by cases h
  | sk :: sks, x :: xs, g, lv, h, hg, l => by
    unfold matchTs at h
    split at h
    · rename_i hc
      obtain ⟨hc1, hc2⟩ := and2 hc
      split at h
      · rename_i g' lv' hm
        simp only [Option.some.injEq, Prod.mk.injEq] at h
        obtain ⟨rfl, rfl⟩ := h
        rw [G.and_val] at hg
        obtain ⟨hg1, hg2⟩ := and2 hg
        obtain ⟨k1, k2, k3⟩ := matchTs_some sks xs g' lv' hm hg2 l
        refine ⟨?_, by simp [k2], fun y hy => ?_⟩
        · show (match sk.plug (((renT (renBy ps) x.need.2).leaves ++ lv') ++ l) with | some (y, l1) => (match plugTs sks l1 with | some (ys, l2) => some (y :: ys, l2) | none => none) | none => none) = _
          rw [List.append_assoc, plug_like _ _ _ hc1]
          simp only
          rw [k1]; rfl
        · cases hy with
          | head =>
            refine ⟨hg1, fun q hq => ?_⟩
            have := List.all_eq_true.1 hc2 q hq
            unfold memB at this
            obtain ⟨y, hy1, hy2⟩ := List.any_eq_true.1 this
            rw [beq2 hy2]; exact hy1
          | tail _ hy => exact k3 y hy
      · cases h
    · cases h

theorem memB_iff {l : List Nat} {x : Nat} : memB l x = true ↔ x ∈ l := by
  unfold memB
  rw [List.any_eq_true]
  constructor
  · rintro ⟨y, h1, h2⟩; rw [beq2 h2]; exact h1
  · intro h; exact ⟨x, h, Nat.beq_refl x⟩

theorem nodupB_iff : ∀ {l : List Nat}, nodupB l = true → l.Nodup
  | [], _ => List.nodup_nil
  | x :: l, h => by
    obtain ⟨h1, h2⟩ := and2 (show (!(l.any (Nat.beq x)) && nodupB l) = true from h)
    refine List.nodup_cons.2 ⟨fun hm => ?_, nodupB_iff h2⟩
    have : l.any (Nat.beq x) = true := memB_iff.2 hm
    rw [this] at h1; cases h1

theorem look_of_mem {α : Type} : ∀ {l : List (Nat × α)} {k : Nat} {x : α}, (l.map (·.1)).Nodup → (k, x) ∈ l → look l k = some x
  | (j, y) :: l, k, x, hn, h => by
    rw [List.map_cons, List.nodup_cons] at hn
    rw [look_cons]
    cases h with
    | head => rw [if_pos rfl]
    | tail _ h =>
      have : j ≠ k := fun e => hn.1 (e ▸ List.mem_map.2 ⟨_, h, rfl⟩)
      rw [if_neg this]
      exact look_of_mem hn.2 h

/-- What matching what is kept leads to. -/
theorem matchRs_some {ps : List (Nat × Nat)} {a : St} : ∀ (hr : List (Nat × Rt)) (g : G) (lv : List Leaf), matchRs ps a hr = some (g, lv) → g.val = true → ∃ hr', (∀ l, plugRs hr (lv ++ l) = some (hr', l)) ∧ hr'.map (·.1) = hr.map (·.1) ∧
    ∀ k rt, (k, rt) ∈ hr' → ∃ r sk, (k, sk) ∈ hr ∧ look ps k = some r ∧ (a.root r).g.val = true ∧ sk.like (renRt (renBy ps) (a.root r).rt) = true ∧ rt = sk.as (renRt (renBy ps) (a.root r).rt) ∧ ∀ q ∈ (a.root r).rt.names, q ∈ ps.map (·.2)
  | [], g, lv, h, hg => by
    simp only [matchRs, Option.some.injEq, Prod.mk.injEq] at h
    obtain ⟨rfl, rfl⟩ := h
    exact ⟨[], fun l => rfl, rfl, fun k rt hm => by cases hm⟩
  | (k, sk) :: hr, g, lv, h, hg => by
    unfold matchRs at h
    split at h
    · rename_i r hl
      split at h
      · rename_i hc
        obtain ⟨hc1, hc2⟩ := and2 hc
        split at h
        · rename_i g' lv' hm
          simp only [Option.some.injEq, Prod.mk.injEq] at h
          obtain ⟨rfl, rfl⟩ := h
          rw [G.and_val] at hg
          obtain ⟨hg1, hg2⟩ := and2 hg
          obtain ⟨hr', k1, k2, k3⟩ := matchRs_some hr g' lv' hm hg2
          refine ⟨(k, sk.as (renRt (renBy ps) (a.root r).rt)) :: hr', fun l => ?_, by simp [k2], fun k0 rt0 hm0 => ?_⟩
          · show (match sk.plug (((renRt (renBy ps) (a.root r).rt).leaves ++ lv') ++ l) with | some (y, l1) => (match plugRs hr l1 with | some (ys, l2) => some ((k, y) :: ys, l2) | none => none) | none => none) = _
            rw [List.append_assoc, plugR_like _ _ _ hc1]
            simp only
            rw [k1]
          · cases hm0 with
            | head => exact ⟨r, sk, .head _, hl, hg1, hc1, rfl, fun q hq => memB_iff.1 (List.all_eq_true.1 hc2 q hq)⟩
            | tail _ hm0 =>
              obtain ⟨r0, sk0, e1, e2⟩ := k3 k0 rt0 hm0
              exact ⟨r0, sk0, .tail _ e1, e2⟩
        · cases h
      · cases h
    · cases h

end Go.Tm

namespace Go.Tm
open Go.Vm
set_option linter.unusedVariables false
set_option linter.unusedSimpArgs false

def srcBy (ps : List (Nat × Nat)) (q : Nat) : Nat := nameBy ps q

/-- Pairs of names, each name once. -/
structure Once (ps : List (Nat × Nat)) : Prop where
  l : (ps.map (·.1)).Nodup
  r : (ps.map (·.2)).Nodup

section
variable {ps : List (Nat × Nat)}

theorem Once.src (h : Once ps) {k r : Nat} (hm : (k, r) ∈ ps) : srcBy ps k = r := by
  unfold srcBy nameBy
  rw [look_of_mem h.l hm]; rfl

theorem Once.ren (h : Once ps) {k r : Nat} (hm : (k, r) ∈ ps) : renBy ps r = k := by
  unfold renBy nameBy
  rw [look_of_mem (l := ps.map fun x => (x.2, x.1)) (x := k) (by rw [List.map_map]; exact h.r) (List.mem_map.2 ⟨_, hm, rfl⟩)]; rfl

theorem src_none {q : Nat} (h : q ∉ ps.map (·.1)) : srcBy ps q = q := by
  unfold srcBy nameBy
  cases hl : look ps q with
  | none => rfl
  | some r => exact absurd (look_key hl) h

theorem mem_right {r : Nat} (h : r ∈ ps.map (·.2)) : ∃ k, (k, r) ∈ ps := by
  obtain ⟨⟨k, r'⟩, h1, rfl⟩ := List.mem_map.1 h
  exact ⟨k, h1⟩
theorem mem_left {k : Nat} (h : k ∈ ps.map (·.1)) : ∃ r, (k, r) ∈ ps := by
  obtain ⟨⟨k', r⟩, h1, rfl⟩ := List.mem_map.1 h
  exact ⟨r, h1⟩

/-- What is kept, under its other name. -/
def RtFit (ps : List (Nat × Nat)) : Rt → Rt → Prop
  | .var ty x, .var ty' x' => x' = renT (renBy ps) x ∧ x'.solid = true ∧ (∀ p ∈ x.names, p ∈ ps.map (·.2)) ∧ ty' = ty
  | .arr t L fz, .arr t' L' fz' => Rt.arr t' L' fz = Rt.arr t L fz ∧ (fz = true → fz' = true)
  | _, _ => False

/-- M is a, under other names ('ps'), or says less. -/
structure Over (ps : List (Nat × Nat)) (a M : St) : Prop where
  once : Once ps
  named : ∀ k r, (k, r) ∈ ps → (M.root k).live = true → (a.root r).g.val = true ∧ RtFit ps (a.root r).rt (M.root k).rt
  rest : ∀ q, q ∉ ps.map (·.1) → (M.root q).live = true → M.root q = a.root q ∧ q ∉ ps.map (·.2) ∧ ∀ p ∈ (a.root q).rt.names, p ∈ ps.map (·.1) → (p, p) ∈ ps

variable {N : Nat} {a M : St} {loc : Loc} {β : Nat → Option (Nat × Nat)} {H : List Ob} {S : Nat → Nat → Prop} {act : Act} {w : World} {Wr : Nat → Prop} {own0 : Nat → Prop} {n0 : Nat}

theorem RtFit.same {x y : Rt} (h : RtFit ps x y) : sameRt x y := by
  cases x <;> cases y <;> first | exact True.intro | exact h.elim | skip
  have := h.1
  injection this with h1 h2 h3
  subst h1
  have h2 := eq_of_heq h2
  subst h2
  rfl

theorem RtFit.alive {x y : Rt} (h : RtFit ps x y) : x.alive = true := by
  cases x <;> cases y <;> first | rfl | exact h.elim

theorem Over.ren (h : Over ps a M) : RenP (fun q => q ∈ ps.map (·.2)) a loc M (fun q => loc (srcBy ps q)) (renBy ps) := fun q hq hl => by
  obtain ⟨k, hk⟩ := mem_right hq
  rw [h.once.ren hk] at hl ⊢
  obtain ⟨h1, h2⟩ := h.named k q hk hl
  refine ⟨live_iff.2 ⟨h1, h2.alive⟩, ?_, h2.same⟩
  show loc (srcBy ps k) = loc q
  rw [h.once.src hk]

theorem Over.id (h : Over ps a M) : RenP (fun q => q ∈ ps.map (·.1) → (q, q) ∈ ps) a loc M (fun q => loc (srcBy ps q)) (fun q => q) := fun q hq hl => by
  by_cases hk : q ∈ ps.map (·.1)
  · have hm := hq hk
    obtain ⟨h1, h2⟩ := h.named q q hm hl
    refine ⟨live_iff.2 ⟨h1, h2.alive⟩, ?_, h2.same⟩
    show loc (srcBy ps q) = loc q
    rw [h.once.src hm]
  · obtain ⟨h1, _, _⟩ := h.rest q hk hl
    refine ⟨by rw [← h1]; exact hl, ?_, by rw [← h1]; exact sameRt.refl (live_iff.1 hl).2⟩
    show loc (srcBy ps q) = loc q
    rw [src_none hk]

theorem Over.heap (hh : Heap a loc β H S w Wr own0 n0) (h : Over ps a M) : ∃ H', Heap M (fun q => loc (srcBy ps q)) β H' S w Wr own0 n0 ∧ Gone Wr own0 n0 β H S w β H' S w := by
  refine Heap.recast hh (srcBy ps) (fun q hl => ?_) (fun q q' hl hl' he => ?_)
  · by_cases hk : q ∈ ps.map (·.1)
    · obtain ⟨r, hm⟩ := mem_left hk
      obtain ⟨h1, h2⟩ := h.named q r hm hl
      rw [h.once.src hm]
      refine ⟨live_iff.2 ⟨h1, h2.alive⟩, rfl, ?_⟩
      generalize hx : (a.root r).rt = x at h2
      generalize hy : (M.root q).rt = y at h2
      cases x <;> cases y <;> first | exact h2.elim | skip
      · rename_i ty x ty' x'
        obtain ⟨e1, e2, e3, _⟩ := h2
        refine ⟨e2, ?_⟩
        rw [e1]
        exact encC_ren h.ren x e3
      · rename_i t L fz t' L' fz'
        obtain ⟨e1, e2⟩ := h2
        injection e1 with e3 e4 e5
        subst e3
        have e4 := eq_of_heq e4
        subst e4
        exact ⟨rfl, rfl, rfl, e2⟩
    · obtain ⟨h1, _, h3⟩ := h.rest q hk hl
      rw [src_none hk]
      refine ⟨by rw [← h1]; exact hl, rfl, ?_⟩
      rw [h1]
      generalize hx : (a.root q).rt = x at h3
      cases x with
      | gone => trivial
      | var ty x =>
        refine ⟨Heap.solid hh (by rw [← h1]; exact hl) hx, ?_⟩
        have := encC_ren (loc := loc) h.id x h3
        rwa [renT_id] at this
      | arr t L fz => exact ⟨rfl, rfl, rfl, fun h => h⟩
  · by_cases hk : q ∈ ps.map (·.1)
    · obtain ⟨r, hm⟩ := mem_left hk
      rw [h.once.src hm] at he
      by_cases hk' : q' ∈ ps.map (·.1)
      · obtain ⟨r', hm'⟩ := mem_left hk'
        rw [h.once.src hm'] at he
        subst he
        rw [← h.once.ren hm, ← h.once.ren hm']
      · rw [src_none hk'] at he
        subst he
        exact absurd (List.mem_map.2 ⟨_, hm, rfl⟩) (h.rest _ hk' hl').2.1
    · rw [src_none hk] at he
      by_cases hk' : q' ∈ ps.map (·.1)
      · obtain ⟨r', hm'⟩ := mem_left hk'
        rw [h.once.src hm'] at he
        subst he
        exact absurd (List.mem_map.2 ⟨_, hm', rfl⟩) (h.rest _ hk hl).2.1
      · rw [src_none hk'] at he
        exact he

/-- A slot's value, under other names, or as it was, or not said. -/
def SlotFit (ps : List (Nat × Nat)) (x y : T) : Prop :=
  (x.need.1.val = true ∧ y = renT (renBy ps) x.need.2 ∧ ∀ p ∈ x.need.2.names, p ∈ ps.map (·.2)) ∨ (y = x ∧ ∀ p ∈ x.names, p ∈ ps.map (·.1) → (p, p) ∈ ps) ∨ y = .undef

theorem Over.value (h : Over ps a M) {x y : T} (hf : SlotFit ps x y) {u : Value} {H' : List Ob} (hg : Gone Wr own0 n0 β H S w β H' S w) (hr : RelD β H S w (encD a loc x) u) : RelD β H' S w (encD M (fun q => loc (srcBy ps q)) y) u := by
  have hr := RelD.step hg.ext hg.evo _ _ hr
  rcases hf with ⟨h1, rfl, h3⟩ | ⟨rfl, h2⟩ | rfl
  · exact encD_ren h.ren _ u h3 (need_rel rfl h1 hr)
  · have := encD_ren (loc := loc) h.id y u h2 hr
    rwa [renT_id] at this
  · trivial

theorem Over.sr (hs : SR N a loc β H S act w Wr own0 n0) (h : Over ps a M) (hsl : ∀ t, SlotFit ps (a.slot t) (M.slot t)) : ∃ H', SR N M (fun q => loc (srcBy ps q)) β H' S act w Wr own0 n0 ∧ Gone Wr own0 n0 β H S w β H' S w := by
  obtain ⟨H', h1, h2⟩ := h.heap hs.heap
  exact ⟨H', ⟨fun t => h.value (hsl t) h2 (hs.slots t), h1, hs.defers, hs.size⟩, h2⟩

theorem Over.fol (h : Over ps a M) {n : Nat} (hk : ∀ q, q < n → q ∈ ps.map (·.1) → (q, q) ∈ ps) : Fol a loc M (fun q => loc (srcBy ps q)) n := fun q hq hl => by
  obtain ⟨h1, h2, h3⟩ := h.id (loc := loc) q (hk q hq) hl
  exact ⟨h1, h2, h3⟩

theorem look_kept (l : List (Nat × Rt)) (q : Nat) : look (kept l) q = (look l q).map fun x => (⟨.tt, x⟩ : HE) := by
  unfold kept
  induction l with
  | nil => rfl
  | cons x l ih =>
    obtain ⟨k, x⟩ := x
    rw [List.map_cons, look_cons, look_cons]
    split
    · rfl
    · exact ih

theorem sameKeys_iff {ks : List Nat} (h : sameKeys ks ps = true) : Once ps ∧ ks.Nodup ∧ ∀ k, k ∈ ks ↔ k ∈ ps.map (·.1) := by
  unfold sameKeys at h
  obtain ⟨h1, h⟩ := and2 h
  obtain ⟨h2, h⟩ := and2 h
  obtain ⟨h3, h⟩ := and2 h
  obtain ⟨h4, h5⟩ := and2 h
  refine ⟨⟨nodupB_iff h1, nodupB_iff h2⟩, nodupB_iff h3, fun k => ⟨fun hk => memB_iff.1 (List.all_eq_true.1 h4 k hk), fun hk => memB_iff.1 (List.all_eq_true.1 h5 k hk)⟩⟩

theorem RtFit.of_like {sk x : Rt} (h : sk.like (renRt (renBy ps) x) = true) (hn : ∀ q ∈ x.names, q ∈ ps.map (·.2)) : RtFit ps x (sk.as (renRt (renBy ps) x)) := by
  cases x with
  | gone => cases sk <;> cases h
  | var ty x =>
    cases sk with
    | gone => cases h
    | arr t L fz => cases h
    | var ty' x' => exact ⟨rfl, (and2 (and2 h).2).2, hn, rfl⟩
  | arr t L fz =>
    cases sk with
    | gone => cases h
    | var ty' x' => cases h
    | arr t' L' fz' =>
      refine ⟨rfl, fun hz => ?_⟩
      have := (and2 h).2
      rw [hz] at this
      simpa using this

/-- What binding names to a shape leads to. -/
theorem bind_some {sks xs : List T} {hr : List (Nat × Rt)} {g : G} {lv : List Leaf} (h : bindTo a ps sks xs hr = some (g, lv)) (hg : g.val = true) :
    Once ps ∧ (hr.map (·.1)).Nodup ∧ (∀ k, k ∈ hr.map (·.1) ↔ k ∈ ps.map (·.1)) ∧ sks.length = xs.length ∧ (∀ x ∈ xs, x.need.1.val = true ∧ ∀ q ∈ x.need.2.names, q ∈ ps.map (·.2)) ∧
    ∃ l2 hr', plugTs sks lv = some (xs.map fun x => renT (renBy ps) x.need.2, l2) ∧ plugRs hr l2 = some (hr', []) ∧ hr'.map (·.1) = hr.map (·.1) ∧
      ∀ k rt, look hr' k = some rt → ∃ r, (k, r) ∈ ps ∧ (a.root r).g.val = true ∧ RtFit ps (a.root r).rt rt := by
  unfold bindTo at h
  split at h
  · rename_i hk
    obtain ⟨h1, h2, h3⟩ := sameKeys_iff hk
    split at h
    · rename_i g1 l1 g2 l2 hm hn
      simp only [Option.some.injEq, Prod.mk.injEq] at h
      obtain ⟨rfl, rfl⟩ := h
      rw [G.and_val] at hg
      obtain ⟨hg1, hg2⟩ := and2 hg
      obtain ⟨k1, k2, k3⟩ := matchTs_some sks xs g1 l1 hm hg1 l2
      obtain ⟨hr', m1, m2, m3⟩ := matchRs_some hr g2 l2 hn hg2
      refine ⟨h1, h2, h3, k2, k3, l2, hr', k1, by have := m1 []; rwa [List.append_nil] at this, m2, fun k rt hl => ?_⟩
      obtain ⟨r, sk, e1, e2, e3, e4, rfl, e6⟩ := m3 k rt (look_mem _ _ _ hl)
      exact ⟨r, look_mem _ _ _ e2, e3, RtFit.of_like e4 e6⟩
    · cases h
  · cases h

end
end Go.Tm

namespace Go.Tm
open Go.Vm
set_option linter.unusedVariables false
set_option linter.unusedSimpArgs false

/-- A loop that has begun. -/
def LoopWp (P : Program) (c : Code) (Q : Exit → Act → World → Prop) (a : Act) (w : World) : Prop :=
  ∀ (b : Frame) (k : List Item) (cs : List Frame), ∃ e a' w', Q e a' w' ∧ Arrives P (lone (b.at a (.code c :: .inLoop c :: k)) cs w) b k cs e a' w'

theorem wp_of_loopWp {P : Program} {c : Code} {Q : Exit → Act → World → Prop} {a : Act} {w : World} (h : LoopWp P c Q a w) : (Code.loop c).wp P Q a w := fun b k cs => by
  obtain ⟨e, a', w', hq, harr⟩ := h b k cs
  exact ⟨e, a', w', hq, .of_steps (.one step_loop) harr⟩

theorem loopWp_step {P : Program} {c : Code} {Q : Exit → Act → World → Prop} {a : Act} {w : World} (h : c.wp P (Exit.then (LoopWp P c Q) Q) a w) : LoopWp P c Q a w := fun b k cs => by
  obtain ⟨e, a₁, w₁, hq, harr⟩ := h b (.inLoop c :: k) cs
  cases e with
  | normal =>
    obtain ⟨e₂, a₂, w₂, hq₂, harr₂⟩ := hq b k cs
    exact ⟨e₂, a₂, w₂, hq₂, .of_steps (Steps.trans harr (.one step_inLoop)) harr₂⟩
  | exit id => exact ⟨_, a₁, w₁, hq, .pass (x := .inLoop c) rfl (fun _ _ => .inl (by simp)) harr⟩
  | goto l => exact ⟨_, a₁, w₁, hq, .pass (x := .inLoop c) rfl (fun _ _ => .inl (by simp)) harr⟩
  | ret => exact ⟨_, a₁, w₁, hq, .pass (x := .inLoop c) rfl (fun _ _ => .inl (by simp)) harr⟩
  | panic ch => exact ⟨_, a₁, w₁, hq, .pass (x := .inLoop c) rfl (fun _ _ => .inl (by simp)) harr⟩
  | outgrown => exact ⟨_, a₁, w₁, hq, .pass (x := .inLoop c) rfl (fun _ _ => .inl (by simp)) harr⟩

theorem look_undef (l : List Nat) (m : List (Nat × T)) (t : Nat) : look (l.map (fun v => (v, T.undef)) ++ m) t = if t ∈ l then some .undef else look m t := by
  induction l with
  | nil => rfl
  | cons v l ih =>
    rw [List.map_cons, List.cons_append, look_cons, ih]
    by_cases hv : v = t
    · subst hv; simp
    · simp [hv, show ¬ t = v from fun h => hv h.symm]

theorem look_gone (l : List Nat) (m : List (Nat × HE)) (t : Nat) : look (l.map (fun r => (r, (⟨.ff, .gone⟩ : HE))) ++ m) t = if t ∈ l then some ⟨.ff, .gone⟩ else look m t := by
  induction l with
  | nil => rfl
  | cons v l ih =>
    rw [List.map_cons, List.cons_append, look_cons, ih]
    by_cases hv : v = t
    · subst hv; simp
    · simp [hv, show ¬ t = v from fun h => hv h.symm]

theorem look_zip {ks : List Nat} {f : Nat → T} {t : Nat} : look (ks.zip (ks.map f)) t = if t ∈ ks then some (f t) else none := by
  induction ks with
  | nil => rfl
  | cons v l ih =>
    rw [List.map_cons, List.zip_cons_cons, look_cons, ih]
    by_cases hv : v = t
    · subst hv; simp
    · simp [hv, show ¬ t = v from fun h => hv h.symm]

theorem look_keys {α : Type} {l : List (Nat × α)} {k : Nat} : k ∈ l.map (·.1) ↔ ∃ x, look l k = some x := by
  constructor
  · intro h
    cases hl : look l k with
    | some x => exact ⟨x, rfl⟩
    | none =>
      exfalso
      induction l with
      | nil => cases h
      | cons y l ih =>
        obtain ⟨j, y⟩ := y
        rw [look_cons] at hl
        split at hl
        · cases hl
        · rename_i hj
          rw [List.map_cons, List.mem_cons] at h
          rcases h with h | h
          · exact hj h.symm
          · exact ih h hl
  · rintro ⟨x, hx⟩; exact look_key hx

section
variable {ps : List (Nat × Nat)} {N : Nat} {s a M sx : St} {dead : List Nat} {h : Head} {lv : List Leaf}

/-- What a head's state says. -/
theorem headSt_some (hm : headSt s dead h lv = some M) : ∃ ts l1 rs, plugTs (h.ts.map (·.2)) lv = some (ts, l1) ∧ plugRs h.rs l1 = some (rs, []) ∧ M.nx = h.nx ∧
    (∀ q, M.root q = match look rs q with | some rt => ⟨.tt, rt⟩ | none => if q ∈ h.old then ⟨.ff, .gone⟩ else s.root q) ∧
    (∀ t, M.slot t = match look ((h.ts.map (·.1)).zip ts) t with | some y => y | none => if t ∈ dead then .undef else s.slot t) := by
  unfold headSt at hm
  split at hm
  · rename_i ts l1 hts
    split at hm
    · rename_i rs hrs
      injection hm with hm
      subst hm
      refine ⟨ts, l1, rs, hts, hrs, rfl, fun q => ?_, fun t => ?_⟩
      · unfold St.root
        simp only
        rw [look_append, look_kept]
        cases look rs q with
        | some rt => rfl
        | none =>
          simp only [Option.map_none]
          rw [look_gone]
          split <;> rfl
      · unfold St.slot
        simp only
        rw [look_append]
        cases look ((h.ts.map (·.1)).zip ts) t with
        | some y => rfl
        | none =>
          simp only
          rw [look_undef]
          split <;> rfl
    · cases hm
  · cases hm

theorem plugRs_keys : ∀ {hr hr' : List (Nat × Rt)} {l l' : List Leaf}, plugRs hr l = some (hr', l') → hr'.map (·.1) = hr.map (·.1)
  | [], hr', l, l', h => by
    simp only [plugRs, Option.some.injEq, Prod.mk.injEq] at h
    rw [← h.1]
  | (k, x) :: hr, hr', l, l', h => by
    unfold plugRs at h
    split at h
    · split at h
      · rename_i ys l2 hp
        simp only [Option.some.injEq, Prod.mk.injEq] at h
        obtain ⟨rfl, _⟩ := h
        rw [List.map_cons, List.map_cons, plugRs_keys hp]
      · cases h
    · cases h

/-- The state at a head, out of a state whose values have the right shapes. -/
theorem head_over {g : G} (hb : bindTo a ps (h.ts.map (·.2)) (h.ts.map fun x => a.slot x.1) h.rs = some (g, lv)) (hg : g.val = true)
    (b1 : ∀ q, q ∉ h.rs.map (·.1) → q ∉ h.old → (s.root q).live = true → a.root q = s.root q ∧ q ∉ ps.map (·.2) ∧ ∀ p ∈ (s.root q).rt.names, p ∈ ps.map (·.1) → (p, p) ∈ ps)
    (b2 : ∀ t, t ∉ dead → t ∉ h.ts.map (·.1) → a.slot t = s.slot t ∧ ∀ p ∈ (s.slot t).names, p ∈ ps.map (·.1) → (p, p) ∈ ps) :
    ∃ M, headSt s dead h lv = some M ∧ Over ps a M ∧ ∀ t, SlotFit ps (a.slot t) (M.slot t) := by
  obtain ⟨h1, h2, h3, h4, h5, l2, hr', k1, k2, k3, k4⟩ := bind_some hb hg
  have hM : ∃ M, headSt s dead h lv = some M := by unfold headSt; rw [k1]; simp only; rw [k2]; exact ⟨_, rfl⟩
  obtain ⟨M, hM⟩ := hM
  obtain ⟨ts, l1, rs, e1, e2, e3, e4, e5⟩ := headSt_some hM
  rw [k1] at e1
  simp only [Option.some.injEq, Prod.mk.injEq] at e1
  obtain ⟨rfl, rfl⟩ := e1
  rw [k2] at e2
  simp only [Option.some.injEq, Prod.mk.injEq] at e2
  obtain ⟨rfl, _⟩ := e2
  refine ⟨M, hM, ⟨h1, fun k r hm hl => ?_, fun q hq hl => ?_⟩, fun t => ?_⟩
  · rw [e4]
    have hk : k ∈ hr'.map (·.1) := by rw [k3, h3]; exact List.mem_map.2 ⟨_, hm, rfl⟩
    obtain ⟨rt, hrt⟩ := look_keys.1 hk
    rw [hrt]
    obtain ⟨r', m1, m2, m3⟩ := k4 k rt hrt
    have : r' = r := by rw [← h1.src m1, ← h1.src hm]
    subst this
    exact ⟨m2, m3⟩
  · rw [e4] at hl ⊢
    have hn : look hr' q = none := by
      cases hlk : look hr' q with
      | none => rfl
      | some rt => exact absurd (by rw [← h3, ← k3]; exact look_key hlk) hq
    rw [hn] at hl ⊢
    simp only at hl ⊢
    by_cases ho : q ∈ h.old
    · rw [if_pos ho] at hl; cases hl
    · rw [if_neg ho] at hl ⊢
      obtain ⟨c1, c2, c3⟩ := b1 q (fun hc => hq ((h3 q).1 hc)) ho hl
      exact ⟨c1.symm, c2, by rw [c1]; exact c3⟩
  · rw [e5]
    have hz : (h.ts.map fun x => a.slot x.1).map (fun x => renT (renBy ps) x.need.2) = (h.ts.map (·.1)).map (fun v => renT (renBy ps) (a.slot v).need.2) := by rw [List.map_map, List.map_map]; rfl
    rw [hz, look_zip]
    by_cases ht : t ∈ h.ts.map (·.1)
    · rw [if_pos ht]
      obtain ⟨x, hx, rfl⟩ := List.mem_map.1 ht
      obtain ⟨c1, c2⟩ := h5 (a.slot x.1) (List.mem_map.2 ⟨x, hx, rfl⟩)
      exact .inl ⟨c1, rfl, c2⟩
    · rw [if_neg ht]
      simp only
      by_cases hd : t ∈ dead
      · rw [if_pos hd]; exact .inr (.inr rfl)
      · rw [if_neg hd]
        obtain ⟨c1, c2⟩ := b2 t hd ht
        exact .inr (.inl ⟨c1.symm, by rw [c1]; exact c2⟩)

theorem Below.root (h : Below s M.nx) {q : Nat} (hl : (s.root q).live = true) : q < M.nx := by
  refine Classical.byContradiction fun hn => ?_
  have := (h (q + 1)).roots q (by omega) (by omega)
  rw [this] at hl; cases hl

theorem Below.rootN {n : Nat} (h : Below s n) {q : Nat} (hl : (s.root q).live = true) : q < n := by
  refine Classical.byContradiction fun hn => ?_
  have := (h (q + 1)).roots q (by omega) (by omega)
  rw [this] at hl; cases hl

theorem Below.slotN {n : Nat} (h : Below s n) {t p : Nat} (hp : p ∈ (s.slot t).names) : p < n := by
  refine Classical.byContradiction fun hn => (h (p + 1)).slots t p hp ⟨by omega, by omega⟩

theorem Below.varN {n : Nat} (h : Below s n) {q p : Nat} (hp : p ∈ (s.root q).rt.names) : p < n := by
  refine Classical.byContradiction fun hn => ?_
  cases hx : (s.root q).rt with
  | var ty x => rw [hx] at hp; exact (h (p + 1)).vars q ty x hx p hp ⟨by omega, by omega⟩
  | arr t L fz => rw [hx] at hp; cases hp
  | gone => rw [hx] at hp; cases hp

theorem within_root (hg : Grows sx a) (hw : within sx a dead h = true) {q : Nat} (h1 : q < sx.nx) (h2 : q ∉ h.rs.map (·.1)) : a.root q = sx.root q := by
  refine hg.root fun e he heq => ?_
  have := List.all_eq_true.1 (and2 hw).2 e he
  rw [Bool.or_eq_true] at this
  rcases this with h3 | h3
  · have := Nat.le_of_ble_eq_true h3; omega
  · exact h2 (heq ▸ memB_iff.1 h3)

theorem within_slot (hg : Grows sx a) (hw : within sx a dead h = true) {t : Nat} (h1 : t ∉ dead) (h2 : t ∉ h.ts.map (·.1)) : a.slot t = sx.slot t := by
  refine hg.slot fun e he heq => ?_
  have := List.all_eq_true.1 (and2 hw).1 e he
  rw [Bool.or_eq_true] at this
  rcases this with h3 | h3
  · exact h1 (heq ▸ memB_iff.1 h3)
  · exact h2 (heq ▸ memB_iff.1 h3)

/-- What is known of a head. -/
structure HeadOk (s : St) (stay : List Nat) (h : Head) : Prop where
  below : Below s s.nx
  nx : s.nx ≤ h.nx
  keys : ∀ k ∈ h.rs.map (·.1), k ∈ stay ∨ s.nx ≤ k

theorem head_root (hm : headSt s dead h lv = some sx) {q : Nat} (h1 : q ∉ h.rs.map (·.1)) (h2 : q ∉ h.old) : sx.root q = s.root q := by
  obtain ⟨ts, l1, rs, e1, e2, e3, e4, e5⟩ := headSt_some hm
  rw [e4]
  have hn : look rs q = none := by
    cases hlk : look rs q with
    | none => rfl
    | some rt => exact absurd (by rw [← plugRs_keys e2]; exact look_key hlk) h1
  rw [hn]
  simp only
  rw [if_neg h2]

theorem head_old (hm : headSt s dead h lv = some sx) {q : Nat} (h1 : q ∉ h.rs.map (·.1)) (h2 : q ∈ h.old) : (sx.root q).live = false := by
  obtain ⟨ts, l1, rs, e1, e2, e3, e4, e5⟩ := headSt_some hm
  rw [e4]
  have hn : look rs q = none := by
    cases hlk : look rs q with
    | none => rfl
    | some rt => exact absurd (by rw [← plugRs_keys e2]; exact look_key hlk) h1
  rw [hn]
  simp only
  rw [if_pos h2]; rfl

theorem zip_none {ks : List Nat} {ts : List T} {t : Nat} (h : t ∉ ks) : look (ks.zip ts) t = none := by
  cases hl : look (ks.zip ts) t with
  | none => rfl
  | some y =>
    have := look_mem _ _ _ hl
    exact absurd (List.of_mem_zip this).1 h

theorem head_slot (hm : headSt s dead h lv = some sx) {t : Nat} (h1 : t ∉ dead) (h2 : t ∉ h.ts.map (·.1)) : sx.slot t = s.slot t := by
  obtain ⟨ts, l1, rs, e1, e2, e3, e4, e5⟩ := headSt_some hm
  rw [e5, zip_none h2]
  simp only
  rw [if_neg h1]

section
variable {loc loc' : Loc} {β β' : Nat → Option (Nat × Nat)} {H H' : List Ob} {S S' : Nat → Nat → Prop} {act : Act} {w w' : World} {Wr : Nat → Prop} {own0 : Nat → Prop} {n0 : Nat}

/-- Behind a round one is at the head again. -/
theorem again_sound {stay : List Nat} {s' : St} {g : G} {lv' : List Leaf} (ho : HeadOk s stay h) (hm : headSt s dead h lv = some sx) (hgr : Grows sx s') (hnx : sx.nx ≤ s'.nx) (hag : again sx s' dead stay h = some (g, lv')) (hg : g.val = true)
    (hs : SR N s' loc β H S act w Wr own0 n0) (hb : Below s' s'.nx) : ∃ M loc' β' H' S', headSt s dead h lv' = some M ∧ SR N M loc' β' H' S' act w Wr own0 n0 ∧ Gone Wr own0 n0 β H S w β' H' S' w ∧ Fol s' loc M loc' s.nx := by
  have hxn : sx.nx = h.nx := by obtain ⟨_, _, _, _, _, e3, _⟩ := headSt_some hm; exact e3
  unfold again at hag
  obtain ⟨g1, gn1, _⟩ := adaptSlots_grows sx (h.ts.map (·.1)) s' s'.nx
  obtain ⟨_, l1, β1, H1, S1, p1, p2, p3, p4⟩ := adaptSlots_sound (b := sx) (h.ts.map (·.1)) (n := s'.nx) hs hb
  generalize adaptSlots sx (h.ts.map (·.1)) s' s'.nx = z1 at hag g1 gn1 p1 p3 p4
  obtain ⟨a1, n1⟩ := z1
  simp only at g1 gn1 p1 p3 p4
  unfold againB at hag
  simp only at hag
  obtain ⟨g2, gn2, _⟩ := adaptRoots_grows sx (h.rs.map (·.1)) a1 n1
  obtain ⟨_, l2, β2, H2, S2, q1, q2, q3, q4⟩ := adaptRoots_sound (b := sx) (h.rs.map (·.1)) (n := n1) p1 p4
  generalize adaptRoots sx (h.rs.map (·.1)) a1 n1 = z2 at hag g2 gn2 q1 q3 q4
  obtain ⟨a, n2⟩ := z2
  simp only at hag g2 gn2 q1 q3 q4
  unfold againAt at hag
  generalize closePs h.rs a depth (nubP (stay.map (fun k => (k, k)) ++ h.ts.flatMap fun x => x.2.zipNames (a.slot x.1).need.2)) = ps at hag
  unfold againPs at hag
  split at hag
  · rename_i hc
    obtain ⟨hc1, hc⟩ := and2 hc
    obtain ⟨hc2, hc3⟩ := and2 hc
    have hgx : Grows sx a := (hgr.trans g1).trans g2
    have hstay : ∀ k ∈ stay, (k, k) ∈ ps := fun k hk => by
      obtain ⟨⟨p1, p2⟩, h1, h2⟩ := List.any_eq_true.1 (List.all_eq_true.1 hc3 k hk)
      obtain ⟨h3, h4⟩ := and2 h2
      have h3 := beq2 h3
      have h4 := beq2 h4
      simp only at h3 h4
      subst h3; subst h4
      exact h1
    obtain ⟨hon, _, hkeys, _⟩ := bind_some hag hg
    have hpp : ∀ p, p < s.nx → p ∈ ps.map (·.1) → (p, p) ∈ ps := fun p hp hk => by
      rcases ho.keys p ((hkeys p).2 hk) with h1 | h1
      · exact hstay p h1
      · omega
    have hnx' : s.nx ≤ sx.nx := by rw [hxn]; exact ho.nx
    obtain ⟨M, k1, k2, k3⟩ := head_over (s := s) (dead := dead) hag hg (fun q hq1 hq2 hl => by
      have hlt := ho.below.rootN hl
      refine ⟨(within_root hgx hc1 (by omega) hq1).trans (head_root hm hq1 hq2), fun hr => ?_, fun p hp => hpp p (ho.below.varN hp)⟩
      have := List.all_eq_true.1 hc2 q hr
      rw [Bool.or_eq_true] at this
      rcases this with h1 | h1
      · have := Nat.le_of_ble_eq_true h1; omega
      · exact hq1 (memB_iff.1 h1)) (fun t ht1 ht2 => ⟨(within_slot hgx hc1 ht1 ht2).trans (head_slot hm ht1 ht2), fun p hp => hpp p (ho.below.slotN hp)⟩)
    obtain ⟨H3, m1, m2⟩ := k2.sr q1 k3
    refine ⟨M, _, β2, H3, S2, k1, m1, (p2.trans q2).trans m2, ?_⟩
    have f1 : Fol s' loc a l2 s.nx := fun q hq hl => (p3.trans q3 gn1) q (by omega) hl
    exact f1.trans (k2.fol (n := s.nx) hpp) (Nat.le_refl _)
  · cases hag

end
end
end Go.Tm

namespace Go.Tm
open Go.Vm
set_option linter.unusedVariables false
set_option linter.unusedSimpArgs false

section
variable {P : Program} {N : Nat} {s sx : St} {dead : List Nat} {lh : LH} {h : Head} {sh : List (G × Left)} {ρ : List Ty} {b : Code} {B : St → Out}

/-- What a round is known to be. -/
structure RoundOk (s sx : St) (dead : List Nat) (lh : LH) (h : Head) (sh : List (G × Left)) (ρ : List Ty) (o : Out) (r : HL ρ) : Prop where
  below : newBelow s sx = true
  within : ∀ y ∈ others o, within sx y.2.2 dead h = true
  like : likeLefts sh (leftsOf sx lh h (others o)) = true
  data : HL.of ρ (leftLeaves (leftsOf sx lh h (others o))) = some r
  ok : o.ok.val = true

theorem round_some {x y : HL h.tys} {o : Out} {go : Bool} {r : HL ρ} (hr : roundOn s dead lh h sh ρ x sx o = (true, go, y, r)) : RoundOk s sx dead lh h sh ρ o r ∧
    ((∃ g s' g' lv, look o.ex exN = some (g, s') ∧ go = g.val ∧ (g.val = true → again sx s' dead lh.rs h = some (g', lv) ∧ HL.of h.tys lv = some y ∧ g'.val = true)) ∨ (look o.ex exN = none ∧ go = false)) := by
  unfold roundOn at hr
  split at hr
  · rename_i r0 hr0
    split at hr0
    · rename_i hc
      obtain ⟨c1, hc⟩ := and2 hc
      obtain ⟨c2, c3⟩ := and2 hc
      have mk : o.ok.val = true → r0 = r → RoundOk s sx dead lh h sh ρ o r := fun h1 h2 => ⟨c1, List.all_eq_true.1 c2, c3, by rw [← h2]; exact hr0, h1⟩
      split at hr
      · rename_i g s' hN
        split at hr
        · rename_i g' lv hag
          split at hr
          · rename_i y0 hy
            simp only [Prod.mk.injEq] at hr
            obtain ⟨e1, e2, e3, e4⟩ := hr
            rw [G.and_val] at e1
            obtain ⟨e5, e6⟩ := and2 e1
            refine ⟨mk e5 e4, .inl ⟨g, s', g', lv, hN, e2.symm, fun hg => ⟨hag, by rw [← e3]; exact hy, ?_⟩⟩⟩
            cases g' with
            | tt => rfl
            | ff => have e6 : cond g.val false true = true := e6; rw [hg] at e6; exact e6
            | of c => have e6 : cond g.val c true = true := e6; rw [hg] at e6; exact e6
          · cases hr
        · cases hr
      · rename_i hN
        simp only [Prod.mk.injEq] at hr
        obtain ⟨e1, e2, e3, e4⟩ := hr
        exact ⟨mk e1 e4, .inr ⟨hN, e2.symm⟩⟩
    · cases hr0
  · cases hr

/-- Rounds, one behind the other. -/
theorem rounds_sound {loc0 : Loc} {β0 : Nat → Option (Nat × Nat)} {H0 : List Ob} {S0 : Nat → Nat → Prop} {w0 : World} {Wr : Nat → Prop} {own0 : Nat → Prop} {n0 : Nat} {Q : Exit → Act → World → Prop} (hB : ∀ sx, Sound P N b sx (B sx)) (ho : HeadOk s lh.rs h) {r : HL ρ}
    (hQ : ∀ sx lv, headSt s dead h lv = some sx → RoundOk s sx dead lh h sh ρ (B sx) r → ∀ k g sk, k ≠ exN → look (B sx).ex k = some (g, sk) → g.val = true → (∀ j, j ≠ k → (B sx).at j = false) →
      ∀ β' H' S' loc' a' w', SR N sk loc' β' H' S' a' w' Wr own0 n0 → Gone Wr own0 n0 β0 H0 S0 w0 β' H' S' w' → Fol s loc0 sk loc' s.nx → Below sk sk.nx → Q (exitOf k) a' w') :
    ∀ (n : Nat) (x : HL h.tys) (sx : St), iterN (roundOf B s dead lh h sh ρ) n x = some r → headSt s dead h (HL.leaves h.tys x) = some sx → ∀ loc β H S a w, SR N sx loc β H S a w Wr own0 n0 → Gone Wr own0 n0 β0 H0 S0 w0 β H S w → Fol s loc0 sx loc s.nx → LoopWp P b Q a w
  | 0, x, sx, hi, hm, loc, β, H, S, a, w, hs, hgo, hf => by cases hi
  | n + 1, x, sx, hi, hm, loc, β, H, S, a, w, hs, hgo, hf => by
    have hxn : sx.nx = h.nx := by obtain ⟨_, _, _, _, _, e3, _⟩ := headSt_some hm; exact e3
    have hnx : s.nx ≤ sx.nx := by rw [hxn]; exact ho.nx
    have hstep : roundOf B s dead lh h sh ρ x = roundOn s dead lh h sh ρ x sx (B sx) := by unfold roundOf; rw [hm]
    unfold iterN at hi
    rw [hstep] at hi
    have hgs : Grows s sx := by
      unfold headSt at hm
      split at hm
      · split at hm
        · injection hm with hm
          rw [← hm]
          exact ⟨⟨_, by simp only [← List.append_assoc]; rfl⟩, ⟨_, by simp only [← List.append_assoc]; rfl⟩⟩
        · cases hm
      · cases hm
    have hfin : ∀ (r0 : HL ρ) go y, roundOn s dead lh h sh ρ x sx (B sx) = (true, go, y, r0) → (go = true → iterN (roundOf B s dead lh h sh ρ) n y = some r) → (go = false → r0 = r) → LoopWp P b Q a w := by
      intro r0 go y hr hgo1 hgo2
      obtain ⟨rok, hcase⟩ := round_some hr
      have hbs : Below sx sx.nx := below_check ho.below hgs hnx rok.below
      refine loopWp_step ((hB sx).runs rok.ok loc β H S a w Wr own0 n0 _ hbs hs fun k g s' hk hg hoth β' H' S' loc' a' w' hs' hgo' hf' hbl' => ?_)
      have hfs : Fol s loc0 s' loc' s.nx := hf.trans hf' hnx
      by_cases hk0 : k = exN
      · subst hk0
        rcases hcase with ⟨g0, s0, g', lv, hN, e1, e2⟩ | ⟨hN, _⟩
        · rw [hk] at hN
          obtain ⟨rfl, rfl⟩ : g = g0 ∧ s' = s0 := by injection hN with h; injection h with h1 h2; exact ⟨h1, h2⟩
          obtain ⟨m1, m2, m3⟩ := e2 hg
          have hgr := (hB sx).grows _ _ _ hk
          obtain ⟨M, loc2, β2, H2, S2, t1, t2, t3, t4⟩ := again_sound ho hm hgr.1 hgr.2 m1 m3 hs' hbl'
          show LoopWp P b Q a' w'
          refine rounds_sound hB ho hQ n y M (hgo1 (by rw [e1]; exact hg)) (by rw [HL.of_leaves _ _ _ m2]; exact t1) loc2 β2 H2 S2 a' w' t2 ((hgo.trans hgo').trans t3) (hfs.trans t4 (Nat.le_refl _))
        · rw [hk] at hN; cases hN
      · rw [exit_then hk0]
        have hgf : go = false := by
          rcases hcase with ⟨g0, s0, g', lv, hN, e1, e2⟩ | ⟨_, e1⟩
          · rw [e1, ← at_some hN]; exact hoth exN (fun h => hk0 h.symm)
          · exact e1
        have := hgo2 hgf
        subst this
        exact hQ sx _ hm rok k g s' hk0 hk hg hoth β' H' S' loc' a' w' hs' (hgo.trans hgo') hfs hbl'
    split at hi
    · cases hi
    · rename_i y r0 hr
      exact hfin r0 true y hr (fun _ => hi) (fun h => by cases h)
    · rename_i y r0 hr
      exact hfin r0 false y hr (fun h => by cases h) (fun _ => by injection hi)

theorem plugTs_keys {l : List (Nat × T)} {l' : List (Nat × T)} (h : likeTs l l' = true) (lv : List Leaf) : plugTs (l.map (·.2)) (l'.flatMap (fun (x : Nat × T) => x.2.leaves) ++ lv) = some (l'.map (·.2), lv) ∧ l.map (·.1) = l'.map (·.1) := by
  induction l generalizing l' with
  | nil =>
    cases l' with
    | nil => exact ⟨rfl, rfl⟩
    | cons y l' => cases h
  | cons x l ih =>
    cases l' with
    | nil => cases h
    | cons y l' =>
      obtain ⟨k, x⟩ := x
      obtain ⟨k', y⟩ := y
      obtain ⟨h1, h2⟩ := and2 (show (Nat.beq k k' && (x.like y && likeTs l l')) = true from h)
      obtain ⟨h2, h3⟩ := and2 h2
      obtain ⟨i1, i2⟩ := ih h3
      refine ⟨?_, by rw [List.map_cons, List.map_cons, i2, beq2 h1]⟩
      show (match x.plug ((y.leaves ++ l'.flatMap fun (x : Nat × T) => x.2.leaves) ++ lv) with | some (y, l1) => (match plugTs (l.map fun (x : Nat × T) => x.2) l1 with | some (ys, l2) => some (y :: ys, l2) | none => none) | none => none) = _
      rw [List.append_assoc, plug_like _ _ _ h2]
      simp only
      rw [i1]; rfl

theorem plugRs_like {l : List (Nat × Rt)} {l' : List (Nat × Rt)} (h : likeRs l l' = true) (lv : List Leaf) : plugRs l (l'.flatMap (fun (x : Nat × Rt) => x.2.leaves) ++ lv) = some (l', lv) := by
  induction l generalizing l' with
  | nil =>
    cases l' with
    | nil => rfl
    | cons y l' => cases h
  | cons x l ih =>
    cases l' with
    | nil => cases h
    | cons y l' =>
      obtain ⟨k, x⟩ := x
      obtain ⟨k', y⟩ := y
      obtain ⟨h1, h2⟩ := and2 (show (Nat.beq k k' && (x.like y && ((x.fz == y.fz) && likeRs l l'))) = true from h)
      obtain ⟨h2, h3⟩ := and2 h2
      obtain ⟨h3, h4⟩ := and2 h3
      have hk := beq2 h1
      subst hk
      have has : x.as y = y := by
        have h3 : x.fz = y.fz := by simpa using h3
        cases x <;> cases y <;> first | rfl | skip
        unfold Rt.as
        simp only [Rt.fz] at h3
        rw [h3]
      show (match x.plug ((y.leaves ++ l'.flatMap fun (x : Nat × Rt) => x.2.leaves) ++ lv) with | some (y, l1) => (match plugRs l l1 with | some (ys, l2) => some ((k, y) :: ys, l2) | none => none) | none => none) = _
      rw [List.append_assoc, plugR_like _ _ _ h2]
      simp only
      rw [ih h4, has]

def outsOf (s : St) (dead : List Nat) (h : Head) (one : Bool) (ls : List (G × Left)) : List (Nat × G × St) := ls.map fun x => (x.2.k, (bif one then G.tt else .of (toB (ofB x.1.val))), leaveSt s dead h x.2)

theorem zip_self : ∀ l : List (Nat × T), (l.map (·.1)).zip (l.map (·.2)) = l
  | [] => rfl
  | (k, x) :: l => by rw [List.map_cons, List.map_cons, List.zip_cons_cons, zip_self l]

/-- The ends of a loop are those of its last round. -/
theorem leaveOuts_like {one : Bool} : ∀ {sh ls : List (G × Left)}, likeLefts sh ls = true → leaveOuts s dead h one sh (leftLeaves ls) = some (outsOf s dead h one ls)
  | [], [], _ => rfl
  | [], _ :: _, h => by cases h
  | _ :: _, [], h => by cases h
  | (g, x) :: sh, (g', y) :: ls, hl => by
    obtain ⟨h1, hl⟩ := and2 (show (Nat.beq x.k y.k && (Nat.beq x.nx y.nx && (likeTs x.ts y.ts && (likeRs x.rs y.rs && likeLefts sh ls)))) = true from hl)
    obtain ⟨h2, hl⟩ := and2 hl
    obtain ⟨h3, hl⟩ := and2 hl
    obtain ⟨h4, h5⟩ := and2 hl
    obtain ⟨e1, e2⟩ := plugTs_keys h3 (y.rs.flatMap (fun x => x.2.leaves) ++ leftLeaves ls)
    show (match plugTs (x.ts.map fun (x : Nat × T) => x.2) (((y.ts.flatMap (fun (x : Nat × T) => x.2.leaves)) ++ y.rs.flatMap (fun (x : Nat × Rt) => x.2.leaves)) ++ leftLeaves ls) with
      | some (ts, l1) => match plugRs x.rs l1 with
        | some (rs, l2) => match leaveOuts s dead h one sh l2 with
          | some r => some ((x.k, (bif one then G.tt else .of (toB (ofB g'.val))), leaveSt s dead h ⟨x.k, (x.ts.map fun (x : Nat × T) => x.1).zip ts, rs, x.nx⟩) :: r)
          | none => none
        | none => none
      | none => none) = _
    rw [List.append_assoc, e1]
    simp only
    rw [plugRs_like h4]
    simp only
    rw [leaveOuts_like h5, e2, zip_self, beq2 h1, beq2 h2]
    rfl

theorem likeLefts_length : ∀ {sh ls : List (G × Left)}, likeLefts sh ls = true → sh.length = ls.length
  | [], [], _ => rfl
  | [], _ :: _, h => by cases h
  | _ :: _, [], h => by cases h
  | (g, x) :: sh, (g', y) :: ls, hl => by
    obtain ⟨h1, hl⟩ := and2 (show (Nat.beq x.k y.k && (Nat.beq x.nx y.nx && (likeTs x.ts y.ts && (likeRs x.rs y.rs && likeLefts sh ls)))) = true from hl)
    obtain ⟨h2, hl⟩ := and2 hl
    obtain ⟨h3, hl⟩ := and2 hl
    obtain ⟨h4, h5⟩ := and2 hl
    rw [List.length_cons, List.length_cons, likeLefts_length h5]

theorem outs_look {one : Bool} (sx : St) (lh : LH) (h' : Head) : ∀ (ex : List (Nat × G × St)) (k : Nat), look (outsOf s dead h one (leftsOf sx lh h' ex)) k = (look ex k).map fun x => ((bif one then G.tt else .of (toB (ofB x.1.val))), leaveSt s dead h (leftOf sx x.2 lh.rs h' (keptOf lh k) k))
  | [], k => rfl
  | (j, g, sk) :: ex, k => by
    show look ((j, (bif one then G.tt else .of (toB (ofB g.val))), leaveSt s dead h (leftOf sx sk lh.rs h' (keptOf lh j) j)) :: outsOf s dead h one (leftsOf sx lh h' ex)) k = _
    rw [look_cons, look_cons]
    split
    · rename_i hj; subst hj; rfl
    · exact outs_look sx lh h' ex k

theorem look_mapped {ks : List Nat} {α : Type} {f : Nat → α} {t : Nat} {x : α} (h : look (ks.map fun v => (v, f v)) t = some x) : x = f t ∧ t ∈ ks := by
  induction ks with
  | nil => cases h
  | cons v l ih =>
    rw [List.map_cons, look_cons] at h
    split at h
    · rename_i hv
      subst hv
      injection h with h
      exact ⟨h.symm, .head _⟩
    · obtain ⟨h1, h2⟩ := ih h
      exact ⟨h1, .tail _ h2⟩

theorem leave_grows (s : St) (dead : List Nat) (h : Head) (x : Left) : Grows s (leaveSt s dead h x) := by
  unfold leaveSt
  exact ⟨⟨x.ts ++ (dead ++ h.ts.map (·.1)).map (fun v => (v, T.undef)), by simp only [List.append_assoc]⟩, ⟨kept x.rs ++ (h.rs.map (·.1) ++ h.old).map (fun r => (r, (⟨.ff, .gone⟩ : HE))), by simp only [List.append_assoc]⟩⟩

/-- Where a loop is left, the state says what is said. -/
theorem leave_over {sk : St} {lv : List Leaf} {k : Nat} (ho : HeadOk s lh.rs h) (hm : headSt s dead h lv = some sx) (hgr : Grows sx sk) (hw : within sx sk dead h = true) :
    Over [] sk (leaveSt s dead h (leftOf sx sk lh.rs h (keptOf lh k) k)) ∧ ∀ t, SlotFit [] (sk.slot t) ((leaveSt s dead h (leftOf sx sk lh.rs h (keptOf lh k) k)).slot t) := by
  have hxn : sx.nx = h.nx := by obtain ⟨_, _, _, _, _, e3, _⟩ := headSt_some hm; exact e3
  have hnx : s.nx ≤ sx.nx := by rw [hxn]; exact ho.nx
  refine ⟨⟨⟨List.nodup_nil, List.nodup_nil⟩, (fun k r hkr => nomatch hkr), fun q _ hl => ⟨?_, by simp, fun p _ hp => (nomatch hp)⟩⟩, fun t => ?_⟩
  · have hroot : ∀ q, (leaveSt s dead h (leftOf sx sk lh.rs h (keptOf lh k) k)).root q = match look (leftOf sx sk lh.rs h (keptOf lh k) k).rs q with | some rt => ⟨.tt, rt⟩ | none => if q ∈ h.rs.map (·.1) ++ h.old then ⟨.ff, .gone⟩ else s.root q := fun q => by
      unfold St.root leaveSt
      simp only
      rw [look_append, look_kept]
      cases look (leftOf sx sk lh.rs h (keptOf lh k) k).rs q with
      | some rt => rfl
      | none =>
        simp only [Option.map_none]
        rw [look_gone]
        split <;> rfl
    rw [hroot] at hl ⊢
    cases hlk : look (leftOf sx sk lh.rs h (keptOf lh k) k).rs q with
    | some rt =>
      simp only
      obtain ⟨e1, e2⟩ := look_mapped (f := fun r => (sk.root r).rt) hlk
      unfold leftRs at e2
      rw [List.mem_filter] at e2
      have ht := (and2 (and2 e2.2).2).1
      rw [e1]
      have hg : (sk.root q).g = .tt := by
        cases hg : (sk.root q).g with
        | tt => rfl
        | ff => rw [hg] at ht; cases ht
        | of c => rw [hg] at ht; cases ht
      rw [← hg]
    | none =>
      rw [hlk] at hl
      simp only at hl ⊢
      by_cases hq : q ∈ h.rs.map (·.1) ++ h.old
      · rw [if_pos hq] at hl; cases hl
      · rw [if_neg hq] at hl ⊢
        rw [List.mem_append, not_or] at hq
        have hlt := ho.below.rootN hl
        exact ((within_root hgr hw (by omega) hq.1).trans (head_root hm hq.1 hq.2)).symm
  · have hslot : (leaveSt s dead h (leftOf sx sk lh.rs h (keptOf lh k) k)).slot t = match look (leftOf sx sk lh.rs h (keptOf lh k) k).ts t with | some y => y | none => if t ∈ dead ++ h.ts.map (·.1) then .undef else s.slot t := by
      unfold St.slot leaveSt
      simp only
      rw [look_append]
      cases look (leftOf sx sk lh.rs h (keptOf lh k) k).ts t with
      | some y => rfl
      | none =>
        simp only
        rw [look_undef]
        split <;> rfl
    rw [hslot]
    cases hlk : look (leftOf sx sk lh.rs h (keptOf lh k) k).ts t with
    | some y =>
      obtain ⟨e1, _⟩ := look_mapped (f := fun v => sk.slot v) hlk
      exact .inr (.inl ⟨e1, fun p _ hp => nomatch hp⟩)
    | none =>
      simp only
      by_cases hd : t ∈ dead ++ h.ts.map (·.1)
      · rw [if_pos hd]; exact .inr (.inr rfl)
      · rw [if_neg hd]
        rw [List.mem_append, not_or] at hd
        exact .inr (.inl ⟨((within_slot hgr hw hd.1 hd.2).trans (head_slot hm hd.1 hd.2)).symm, fun p _ hp => nomatch hp⟩)

/-- Is every end but the one by the round its own. -/
theorem loop_outs {tag : Nat} {s0 : St} {g0 : G} {x0 : HL h.tys} {sx0 : St} (hB : ∀ sx, Sound P N b sx (B sx)) (ho : Below s s.nx → HeadOk s lh.rs h) (hm : headSt s dead h (HL.leaves h.tys x0) = some sx0) (hg0 : Grows s0 s) (hn0 : s0.nx ≤ s.nx)
    (hin : g0.val = true → ∀ loc β H S act w Wr own0 n0, Below s0 s0.nx → SR N s0 loc β H S act w Wr own0 n0 → ∃ loc1 β1 H1 S1 loc2 β2 H2 S2, Gone Wr own0 n0 β H S w β1 H1 S1 w ∧ Fol s0 loc s loc1 s0.nx ∧ SR N sx0 loc2 β2 H2 S2 act w Wr own0 n0 ∧ Gone Wr own0 n0 β1 H1 S1 w β2 H2 S2 w ∧ Fol s loc1 sx0 loc2 s.nx ∧ Below s s.nx) :
    Sound P N (.loop b) s0 (loopOuts tag B s0 s dead lh h g0 x0 sh) := by
  unfold loopOuts
  generalize hL : loopD tag h.tys (tys (leftLeaves sh)) (roundOf B s dead lh h sh (tys (leftLeaves sh))) x0 = z
  cases hout : leaveOuts s dead h (Nat.beq sh.length 1) sh (HL.leaves (tys (leftLeaves sh)) z.2) with
  | none => exact sound_bad
  | some outs =>
    simp only
    have hgrow : ∀ {one : Bool} {sh : List (G × Left)} {lv : List Leaf} {outs}, leaveOuts s dead h one sh lv = some outs → ∀ e ∈ outs, Grows s e.2.2 := by
      intro one sh
      induction sh with
      | nil =>
        intro lv outs hh e he
        cases lv with
        | nil =>
          have hh : some ([] : List (Nat × G × St)) = some outs := hh
          injection hh with hh; subst hh; cases he
        | cons a l => simp [leaveOuts] at hh
      | cons x sh ih =>
        intro lv outs hh e he
        obtain ⟨gx, x⟩ := x
        unfold leaveOuts at hh
        split at hh
        · rename_i heq; cases heq
        · rename_i heq
          injection heq with heq1 heq2
          injection heq1 with heq3 heq4
          subst heq2; subst heq4
          split at hh
          · split at hh
            · split at hh
              · rename_i hr
                injection hh with hh
                subst hh
                cases he with
                | head => exact leave_grows _ _ _ _
                | tail _ he => exact ih hr e he
              · cases hh
            · cases hh
          · cases hh
        · cases hh
    refine sound_checked (fun k g s' hk => hg0.trans (hgrow hout _ (look_mem _ _ _ hk))) fun hok hnx loc β H S act w Wr own0 n0 Q hb hs hQ => ?_
    have hok' : (G.and g0 (.of z.1)).val = true := hok
    rw [G.and_val] at hok'
    obtain ⟨hg, hz⟩ := and2 hok'
    have hz : z.1 = true := hz
    obtain ⟨loc1, β1, H1, S1, loc2, β2, H2, S2, hi1, hi2, hi3, hi4, hi5, hbel⟩ := hin hg loc β H S act w Wr own0 n0 hb hs
    have ho := ho hbel
    have hloop : ∃ n, iterN (roundOf B s dead lh h sh (tys (leftLeaves sh))) n x0 = some z.2 := by
      rw [← hL]
      refine loopR_iter ?_
      show (loopD tag h.tys (tys (leftLeaves sh)) (roundOf B s dead lh h sh (tys (leftLeaves sh))) x0).1 = true
      rw [hL]; exact hz
    obtain ⟨n, hn⟩ := hloop
    refine wp_of_loopWp (rounds_sound (loc0 := loc1) (β0 := β1) (H0 := H1) (S0 := S1) (w0 := w) hB ho (fun sx lv hmx rok k g sk hk0 hk hgk hoth β' H' S' loc' a' w' hs' hgo hf hbl => ?_) n x0 sx0 hn hm loc2 β2 H2 S2 act w hi3 hi4 hi5)
    have hleaf := HL.of_leaves _ _ _ rok.data
    rw [hleaf, leaveOuts_like rok.like] at hout
    injection hout with hout
    subst hout
    have hoth' : look (others (B sx)) k = some (g, sk) := by rw [others_look, if_neg hk0]; exact hk
    have hwi := rok.within _ (look_mem _ _ _ hoth')
    have hgs := (hB sx).grows _ _ _ hk
    obtain ⟨hov, hsf⟩ := leave_over (k := k) ho hmx hgs.1 hwi
    obtain ⟨H3, m1, m2⟩ := hov.sr hs' hsf
    refine hQ k (bif Nat.beq sh.length 1 then G.tt else .of (toB (ofB g.val))) _ (by simp only; rw [outs_look, hoth']; rfl) ?_ (fun j hj => ?_) β' H3 S' _ a' w' m1 ((hi1.trans hgo).trans m2) ?_
    · cases Nat.beq sh.length 1
      · exact hgk
      · rfl
    · unfold Out.at
      simp only
      rw [outs_look]
      cases hj2 : look (others (B sx)) j with
      | none => rfl
      | some y =>
        simp only [Option.map_some]
        cases hone : Nat.beq sh.length 1 with
        | false =>
          have hjN : look (B sx).ex j = some y := by
            rw [others_look] at hj2
            split at hj2
            · cases hj2
            · exact hj2
          have := hoth j hj
          rw [at_some hjN] at this
          exact this
        | true =>
          exfalso
          have h1 := beq2 hone
          rw [likeLefts_length rok.like] at h1
          have h2 : (others (B sx)).length = 1 := by rw [← h1]; unfold leftsOf; rw [List.length_map]
          match hl : others (B sx), h2 with
          | [e], _ =>
            rw [hl] at hoth' hj2
            rw [look_cons] at hoth' hj2
            split at hoth'
            · rename_i he
              split at hj2
              · rename_i he2; exact hj (he2.symm.trans he)
              · cases hj2
            · cases hoth'
    · have f1 := hov.fol (loc := loc') (n := s.nx) (fun q _ hq => by cases hq)
      exact hi2.trans (hf.trans f1 (Nat.le_refl _)) hn0

end
end Go.Tm

namespace Go.Tm
open Go.Vm
set_option linter.unusedVariables false
set_option linter.unusedSimpArgs false

section
variable {N : Nat} {s s' e V : St} {loc loc' locE : Loc} {β β' : Nat → Option (Nat × Nat)} {H H' : List Ob} {S S' : Nat → Nat → Prop} {act : Act} {w w' : World} {Wr : Nat → Prop} {own0 own1 : Nat → Prop} {n0 : Nat}

theorem encC_same {s s' : St} {loc : Loc} (h : ∀ r, (s'.root r).live = true → s'.root r = s.root r) (x : T) : WkL (encC s loc x) (encC s' loc x) := by
  have := encC_ren (A := fun _ => True) (s := s) (loc := loc) (s' := s') (loc' := loc) (f := fun q => q) (fun q _ hl => ⟨by rw [← h q hl]; exact hl, rfl, by rw [h q hl]; exact sameRt.refl (by rw [← h q hl]; exact (live_iff.1 hl).2)⟩) x (fun _ _ => trivial)
  rwa [renT_id] at this

/-- Some of what is kept is not said. -/
theorem Heap.hide (hh : Heap s loc β H S w Wr own0 n0) (h : ∀ r, (V.root r).live = true → V.root r = s.root r) : Heap V loc β H S w Wr own0 n0 where
  heap := hh.heap
  at_ := fun r hg => by
    by_cases hl : (V.root r).live = true
    · have he := h r hl
      have ha := hh.at_ r (by rw [← he]; exact hg)
      rw [he]
      generalize hrt : (s.root r).rt = rt at ha ⊢
      cases rt with
      | gone => trivial
      | var ty x =>
        obtain ⟨a1, a2, cs, a3, a4⟩ := ha
        exact ⟨a1, a2, cs, a3, a4.trans (encC_same h x)⟩
      | arr t L fz => exact ha
    · have : (V.root r).rt = .gone := by
        simp only [HE.live, hg, Bool.true_and, Bool.not_eq_true] at hl
        cases hrt : (V.root r).rt with
        | gone => rfl
        | var _ _ => rw [hrt] at hl; cases hl
        | arr _ _ _ => rw [hrt] at hl; cases hl
      rw [this]; trivial
  inj := fun r r' hl hl' he => hh.inj r r' (by rw [← h r hl]; exact hl) (by rw [← h r' hl']; exact hl') he
  own := fun r hl => hh.own r (by rw [← h r hl]; exact hl)
  len := hh.len
  fresh := hh.fresh

/-- Other numbers of what one may turn. -/
theorem Heap.owns (hh : Heap s loc β H S w Wr own0 n0) : Heap s loc β H S w Wr (fun id => ∃ r, (s.root r).live = true ∧ (loc r).1 = id) H.length where
  heap := hh.heap
  at_ := hh.at_
  inj := hh.inj
  own := fun r hl => .inl ⟨r, hl, rfl⟩
  len := Nat.le_refl _
  fresh := hh.fresh

theorem RootAt.lt {r : Nat} (h : RootAt s loc H r) (hl : (s.root r).live = true) : (loc r).1 < H.length := by
  obtain ⟨hg, ha⟩ := live_iff.1 hl
  have h := h hg
  generalize (s.root r).rt = rt at h ha
  cases rt with
  | gone => cases ha
  | var ty x => obtain ⟨_, _, cs, a3, _⟩ := h; exact (List.getElem?_eq_some_iff.1 a3).1
  | arr t L fz => obtain ⟨_, _, cs, a3, _⟩ := h; exact (List.getElem?_eq_some_iff.1 a3).1

/-- What goes on by itself comes back: 'back q': the name in 'e' of what bears the name q behind it. -/
structure Back (s : St) (loc : Loc) (V : St) (locV : Loc) (e : St) (locE : Loc) (s' : St) (loc' : Loc) (nm : Nat → Nat) (back : Nat → Option Nat) (A B : Nat → Prop) : Prop where
  old : ∀ r, (V.root r).live = true → ∃ q, (s.root q).live = true ∧ locV r = loc q ∧ ((s'.root q).live = true → (back q).isSome = true)
  came : ∀ q k, back q = some k → (s'.root q).live = true → (e.root k).live = true ∧ (s'.root q).rt = renRt nm (e.root k).rt ∧ loc' q = locE k ∧ ∀ p ∈ (e.root k).rt.names, A p
  stay : ∀ q, back q = none → (s'.root q).live = true → s'.root q = s.root q ∧ loc' q = loc q ∧ ∀ p ∈ (s.root q).rt.names, B p
  inj : ∀ q q' k, back q = some k → back q' = some k → (s'.root q).live = true → (s'.root q').live = true → q = q'
  ren : RenP A e locE s' loc' nm
  ids : RenP B s loc s' loc' (fun q => q)

theorem Back.heap {locV : Loc} {nm : Nat → Nat} {back : Nat → Option Nat} {A B : Nat → Prop} (hb : Back s loc V locV e locE s' loc' nm back A B) (hh : Heap s loc β H S w Wr own0 n0) (hV : ∀ id, own1 id → ∃ r, (V.root r).live = true ∧ (locV r).1 = id)
    (he : Heap e locE β' H' S' w' Wr own1 H.length) (hg : Gone Wr own1 H.length β H S w β' H' S' w') : Heap s' loc' β' H' S' w' Wr own0 n0 ∧ Gone Wr own0 n0 β H S w β' H' S' w' := by
  have hstay : ∀ q, back q = none → (s'.root q).live = true → (s.root q).live = true ∧ ¬ own1 (loc q).1 ∧ (loc q).1 < H.length := fun q hq hl => by
    obtain ⟨h1, _, _⟩ := hb.stay q hq hl
    have hls : (s.root q).live = true := by rw [← h1]; exact hl
    refine ⟨hls, fun ho => ?_, RootAt.lt (hh.at_ q) hls⟩
    obtain ⟨r, hr1, hr2⟩ := hV _ ho
    obtain ⟨q', hq1, hq2, hq3⟩ := hb.old r hr1
    rw [hq2] at hr2
    have := hh.inj q' q hq1 hls hr2
    subst this
    have := hq3 hl
    rw [hq] at this; cases this
  have hown : ∀ id, own1 id → own0 id ∨ n0 ≤ id := fun id ho => by
    obtain ⟨r, hr1, hr2⟩ := hV _ ho
    obtain ⟨q', hq1, hq2, hq3⟩ := hb.old r hr1
    rw [hq2] at hr2
    rw [← hr2]
    exact hh.own q' hq1
  refine ⟨⟨he.heap, fun q hgv => ?_, fun q q' hl hl' heq => ?_, fun q hl => ?_, Nat.le_trans hh.len hg.ext.len, he.fresh⟩, ⟨hg.ext, hg.evo, hg.only, fun id hid ho => hg.keep id (Nat.lt_of_lt_of_le hid hh.len) (fun h => by
    rcases hown id h with h | h
    · exact ho h
    · omega)⟩⟩
  · by_cases hl : (s'.root q).live = true
    · cases hq : back q with
      | some k =>
        obtain ⟨h1, h2, h3, h4⟩ := hb.came q k hq hl
        have ha := he.at_ k (live_iff.1 h1).1
        rw [h2, h3]
        generalize (e.root k).rt = rt at ha h4
        cases rt with
        | gone => trivial
        | var ty x =>
          obtain ⟨a1, a2, cs, a3, a4⟩ := ha
          exact ⟨a1, by rw [(renT_kind nm x).1]; exact a2, cs, a3, a4.trans (encC_ren hb.ren x h4)⟩
        | arr t L fz => exact ha
      | none =>
        obtain ⟨h1, h2, h3⟩ := hb.stay q hq hl
        obtain ⟨k1, k2, k3⟩ := hstay q hq hl
        have ha := hh.at_ q (live_iff.1 k1).1
        have hH := hg.keep _ k3 k2
        rw [h1, h2]
        generalize (s.root q).rt = rt at ha h3
        cases rt with
        | gone => trivial
        | var ty x =>
          obtain ⟨a1, a2, cs, a3, a4⟩ := ha
          have := encC_ren hb.ids x h3
          rw [renT_id] at this
          exact ⟨a1, a2, cs, hH.trans a3, a4.trans this⟩
        | arr t L fz =>
          obtain ⟨a1, a2, cs, a3, a4⟩ := ha
          exact ⟨a1, a2, cs, hH.trans a3, a4⟩
    · have : (s'.root q).rt = .gone := by
        simp only [HE.live, hgv, Bool.true_and, Bool.not_eq_true] at hl
        cases hrt : (s'.root q).rt with
        | gone => rfl
        | var _ _ => rw [hrt] at hl; cases hl
        | arr _ _ _ => rw [hrt] at hl; cases hl
      rw [this]; trivial
  · cases hq : back q with
    | some k =>
      obtain ⟨h1, h2, h3, _⟩ := hb.came q k hq hl
      cases hq' : back q' with
      | some k' =>
        obtain ⟨h1', h2', h3', _⟩ := hb.came q' k' hq' hl'
        rw [h3, h3'] at heq
        have := he.inj k k' h1 h1' heq
        subst this
        exact hb.inj q q' k hq hq' hl hl'
      | none =>
        obtain ⟨_, h2', _⟩ := hb.stay q' hq' hl'
        obtain ⟨k1, k2, k3⟩ := hstay q' hq' hl'
        rw [h3, h2'] at heq
        rcases he.own k h1 with h | h
        · rw [heq] at h; exact absurd h k2
        · omega
    | none =>
      obtain ⟨_, h2, _⟩ := hb.stay q hq hl
      obtain ⟨k1, k2, k3⟩ := hstay q hq hl
      cases hq' : back q' with
      | some k' =>
        obtain ⟨h1', h2', h3', _⟩ := hb.came q' k' hq' hl'
        rw [h2, h3'] at heq
        rcases he.own k' h1' with h | h
        · rw [← heq] at h; exact absurd h k2
        · omega
      | none =>
        obtain ⟨_, h2', _⟩ := hb.stay q' hq' hl'
        obtain ⟨k1', _, _⟩ := hstay q' hq' hl'
        rw [h2, h2'] at heq
        exact hh.inj q q' k1 k1' heq
  · cases hq : back q with
    | some k =>
      obtain ⟨h1, h2, h3, _⟩ := hb.came q k hq hl
      rw [h3]
      rcases he.own k h1 with h | h
      · exact hown _ h
      · exact .inr (Nat.le_trans hh.len h)
    | none =>
      obtain ⟨_, h2, _⟩ := hb.stay q hq hl
      obtain ⟨k1, _, _⟩ := hstay q hq hl
      rw [h2]; exact hh.own q k1

end
end Go.Tm

namespace Go.Tm
open Go.Vm
set_option linter.unusedVariables false
set_option linter.unusedSimpArgs false

theorem renRt_id (x : Rt) : renRt (fun q => q) x = x := by
  cases x with
  | var ty x => show Rt.var ty (renT (fun q => q) x) = _; rw [renT_id]
  | arr t L fz => rfl
  | gone => rfl

theorem look_self {α : Type} {l : List Nat} {f : Nat → α} {t : Nat} : look (l.map fun v => (v, f v)) t = if t ∈ l then some (f t) else none := by
  induction l with
  | nil => rfl
  | cons v l ih =>
    rw [List.map_cons, look_cons, ih]
    by_cases hv : v = t
    · subst hv; simp
    · simp [hv, show ¬ t = v from fun h => hv h.symm]

theorem view_slot (L F : List Nat) (s : St) (t : Nat) : (view L F s).slot t = if t ∈ L then s.slot t else .undef := by
  show (look (L.map fun v => (v, s.slot v)) t).getD .undef = _
  rw [look_self (f := fun v => s.slot v)]
  split <;> rfl
theorem view_root (L F : List Nat) (s : St) (q : Nat) : (view L F s).root q = if q ∈ F then s.root q else ⟨.ff, .gone⟩ := by
  show (look (F.map fun v => (v, s.root v)) q).getD ⟨.ff, .gone⟩ = _
  rw [look_self (f := fun v => s.root v)]
  split <;> rfl

theorem view_live {L F : List Nat} {s : St} {q : Nat} (h : ((view L F s).root q).live = true) : q ∈ F ∧ (view L F s).root q = s.root q := by
  rw [view_root] at h ⊢
  by_cases hq : q ∈ F
  · rw [if_pos hq]; exact ⟨hq, rfl⟩
  · rw [if_neg hq] at h; cases h

theorem nameIn_iff {fr : Nat} {F : List Nat} {r : Nat} : nameIn fr F r = true ↔ r ∈ F ∨ (fr ≤ r ∧ r < fr + stride) := by
  unfold nameIn
  rw [Bool.or_eq_true, Bool.and_eq_true, memB_iff]
  constructor
  · rintro (h | ⟨h1, h2⟩)
    · exact .inl h
    · exact .inr ⟨Nat.le_of_ble_eq_true h1, Nat.le_of_ble_eq_true h2⟩
  · rintro (h | ⟨h1, h2⟩)
    · exact .inl h
    · exact .inr ⟨Nat.ble_eq_true_of_le h1, Nat.ble_eq_true_of_le h2⟩

/-- What 'drawChk' says. -/
structure Drawn (fr : Nat) (F : List Nat) (s : St) (r : OpR) : Prop where
  closed : ∀ q ∈ F, ∀ p ∈ (s.root q).rt.names, p ∈ F
  low : ∀ q ∈ F, q < fr
  res : ∀ p ∈ r.res.names, p ∈ F ∨ (fr ≤ p ∧ p < fr + stride)
  up : ∀ x ∈ r.up, (x.1 ∈ F ∨ (fr ≤ x.1 ∧ x.1 < fr + stride)) ∧ ∀ p ∈ x.2.rt.names, p ∈ F ∨ (fr ≤ p ∧ p < fr + stride)

theorem drawn_of {fr : Nat} {F : List Nat} {s : St} {r : OpR} (h : drawChk fr F s r = true) : Drawn fr F s r := by
  obtain ⟨h1, h⟩ := and2 h
  obtain ⟨h2, h⟩ := and2 h
  obtain ⟨h3, h4⟩ := and2 h
  exact ⟨fun q hq p hp => memB_iff.1 (List.all_eq_true.1 (List.all_eq_true.1 h1 q hq) p hp), fun q hq => Nat.le_of_ble_eq_true (List.all_eq_true.1 h2 q hq), fun p hp => nameIn_iff.1 (List.all_eq_true.1 h3 p hp),
    fun x hx => ⟨nameIn_iff.1 (and2 (List.all_eq_true.1 h4 x hx)).1, fun p hp => nameIn_iff.1 (List.all_eq_true.1 (and2 (List.all_eq_true.1 h4 x hx)).2 p hp)⟩⟩

section
variable {P : Program} {N : Nat} {o : Oper} {ops : Array Oper} {a : Act} {s s' : St} {loc loc' : Loc} {β β' : Nat → Option (Nat × Nat)} {H H' : List Ob} {S S' : Nat → Nat → Prop} {w w' : World} {Wr : Nat → Prop} {own0 : Nat → Prop} {n0 fr : Nat} {r : OpR} {L F : List Nat}

theorem view_slots (hs : Slots s loc β H S w a) (hF : ∀ t ∈ L, ∀ p ∈ (s.slot t).names, p ∈ F) : Slots (view L F s) loc β H S w a := fun t => by
  rw [view_slot]
  by_cases ht : t ∈ L
  · rw [if_pos ht]
    have hr : RenP (fun p => p ∈ F) s loc (view L F s) loc (fun q => q) := fun q hq hl => by
      obtain ⟨_, h2⟩ := view_live hl
      rw [h2] at hl ⊢
      exact ⟨hl, rfl, sameRt.refl (live_iff.1 hl).2⟩
    have := encD_ren hr _ _ (hF t ht) (hs t)
    rwa [renT_id] at this
  · rw [if_neg ht]; trivial

theorem doneW_view {K : List Fun} (hK : OpersOk P K) (hh : Heap s loc β H S w Wr own0 n0) (hs : Slots s loc β H S w a) (hc : Clean s fr (fr + stride)) (hF : ∀ t ∈ L, ∀ p ∈ (s.slot t).names, p ∈ F) (hd : Drawn fr F s r)
    (hev : evOper P K fr o (view L F s) = some r) (hok : r.ok.val = true) : DoneW P o a s loc β H S w Wr own0 n0 fr (fr + stride) (addUp s .tt r.up) r.res := fun KK Q hcont => by
  have hV : Heap (view L F s) loc β H S w Wr own0 n0 := Heap.hide hh fun q hl => (view_live hl).2
  have hcV : Below (view L F s) fr := fun hi => by
    refine ⟨fun t p hp hk => ?_, fun q h1 h2 => ?_, fun q ty x hx p hp hk => ?_⟩
    · rw [view_slot] at hp
      split at hp
      · rename_i ht
        have := hd.low p (hF t ht p hp)
        omega
      · cases hp
    · rw [view_root]
      split
      · rename_i hq
        have := hd.low q hq
        omega
      · rfl
    · rw [view_root] at hx
      split at hx
      · rename_i hq
        have := hd.low p (hd.closed q hq p (by rw [hx]; exact hp))
        omega
      · cases hx
  refine hK o a (view L F s) loc β H S w Wr _ H.length fr r (Heap.owns hV) (view_slots hs hF) hcV hev hok KK Q fun v w' β' H' S' locE hv he hg hf => ?_
  let back : Nat → Option Nat := fun q => if q ∈ F ∨ q ∈ r.up.map (·.1) then some q else none
  let loc' : Loc := fun q => if q ∈ F ∨ q ∈ r.up.map (·.1) then locE q else loc q
  have hrs : ∀ q, (addUp s .tt r.up).root q = match look r.up q with | some h => h | none => s.root q := addUp_root_tt s r.up
  have hre : ∀ q, (addUp (view L F s) .tt r.up).root q = match look r.up q with | some h => h | none => (view L F s).root q := addUp_root_tt _ r.up
  have hkey : ∀ q, q ∉ r.up.map (·.1) → look r.up q = none := fun q hq => by
    cases hl : look r.up q with
    | none => rfl
    | some x => exact absurd (look_key hl) hq
  have hsame : ∀ q, q ∈ F ∨ q ∈ r.up.map (·.1) → (addUp s .tt r.up).root q = (addUp (view L F s) .tt r.up).root q := fun q hq => by
    rw [hrs, hre]
    cases hl : look r.up q with
    | some x => rfl
    | none =>
      simp only
      rcases hq with hq | hq
      · rw [view_root, if_pos hq]
      · obtain ⟨x, hx⟩ := look_keys.1 hq
        rw [hl] at hx; cases hx
  have hnames : ∀ q, q ∈ F ∨ q ∈ r.up.map (·.1) → ∀ p ∈ ((addUp (view L F s) .tt r.up).root q).rt.names, p ∈ F ∨ (fr ≤ p ∧ p < fr + stride) := fun q hq p hp => by
    rw [hre] at hp
    cases hl : look r.up q with
    | some x =>
      rw [hl] at hp
      exact (hd.up _ (look_mem _ _ _ hl)).2 p hp
    | none =>
      rw [hl] at hp
      simp only at hp
      rw [view_root] at hp
      split at hp
      · rename_i hqF; exact .inl (hd.closed q hqF p hp)
      · cases hp
  have hrange : ∀ q, fr ≤ q → q < fr + stride → q ∉ r.up.map (·.1) → q ∉ F → ((addUp s .tt r.up).root q).live = false := fun q h1 h2 h3 h4 => by
    rw [hrs, hkey q h3]; exact hc.roots q h1 h2
  have hb : Back s loc (view L F s) loc (addUp (view L F s) .tt r.up) locE (addUp s .tt r.up) loc' (fun q => q) back (fun p => p ∈ F ∨ (fr ≤ p ∧ p < fr + stride)) (fun p => ¬ (fr ≤ p ∧ p < fr + stride)) := by
    refine ⟨fun q hl => ?_, fun q k hq hl => ?_, fun q hq hl => ?_, fun q q' k hq hq' _ _ => ?_, fun q hq hl => ?_, fun q hq hl => ?_⟩
    · obtain ⟨h1, h2⟩ := view_live hl
      refine ⟨q, by rw [← h2]; exact hl, rfl, fun _ => ?_⟩
      show (back q).isSome = true
      simp only [back]
      rw [if_pos (.inl h1)]; rfl
    · simp only [back] at hq
      split at hq
      · rename_i hin
        injection hq with hq
        subst hq
        have he := hsame q hin
        rw [he] at hl ⊢
        refine ⟨hl, (renRt_id _).symm, ?_, hnames q hin⟩
        simp only [loc']
        rw [if_pos hin]
      · cases hq
    · simp only [back] at hq
      split at hq
      · cases hq
      · rename_i hin
        rw [not_or] at hin
        refine ⟨by rw [hrs, hkey q hin.2], ?_, fun p hp hk => ?_⟩
        · simp only [loc']
          rw [if_neg (by rw [not_or]; exact hin)]
        · cases hx : (s.root q).rt with
          | var ty x => rw [hx] at hp; exact hc.vars q ty x hx p hp hk
          | arr t L fz => rw [hx] at hp; cases hp
          | gone => rw [hx] at hp; cases hp
    · simp only [back] at hq hq'
      split at hq
      · split at hq'
        · injection hq with hq; injection hq' with hq'; rw [hq, hq']
        · cases hq'
      · cases hq
    · have hin : q ∈ F ∨ q ∈ r.up.map (·.1) := by
        rcases hq with hq | ⟨h1, h2⟩
        · exact .inl hq
        · refine Classical.byContradiction fun hn => ?_
          rw [not_or] at hn
          have hl : ((addUp s .tt r.up).root q).live = true := hl
          rw [hrange q h1 h2 hn.2 hn.1] at hl; cases hl
      have hl : ((addUp s .tt r.up).root q).live = true := hl
      have he := hsame q hin
      refine ⟨by rw [← he]; exact hl, ?_, by rw [he]; exact sameRt.refl (by rw [← he]; exact (live_iff.1 hl).2)⟩
      simp only [loc']
      rw [if_pos hin]
    · have hl : ((addUp s .tt r.up).root q).live = true := hl
      by_cases hin : q ∈ F ∨ q ∈ r.up.map (·.1)
      · have he := hsame q hin
        obtain ⟨f1, f2, f3⟩ := hf q hq (by rw [← he]; exact hl)
        obtain ⟨v1, v2⟩ := view_live f1
        rw [v2] at f1 f3
        refine ⟨f1, ?_, by rw [he]; exact f3⟩
        simp only [loc']
        rw [if_pos hin]; exact f2
      · have hn := hin
        rw [not_or] at hn
        have he : (addUp s .tt r.up).root q = s.root q := by rw [hrs, hkey q hn.2]
        rw [he] at hl ⊢
        refine ⟨hl, ?_, sameRt.refl (live_iff.1 hl).2⟩
        simp only [loc']
        rw [if_neg hin]
  obtain ⟨h1, h2⟩ := hb.heap (own1 := fun id => ∃ r, ((view L F s).root r).live = true ∧ (loc r).1 = id) hh (fun id h => h) he hg
  have hv' := encD_ren hb.ren _ _ hd.res hv
  rw [renT_id] at hv'
  exact hcont v w' β' H' S' loc' hv' h1 h2 hb.ids

/-- Two states that say the same. -/
def Eqv (s s' : St) : Prop := (∀ t, s'.slot t = s.slot t) ∧ ∀ q, s'.root q = s.root q

theorem Eqv.refl (s : St) : Eqv s s := ⟨fun _ => rfl, fun _ => rfl⟩
theorem Eqv.symm (h : Eqv s s') : Eqv s' s := ⟨fun t => (h.1 t).symm, fun t => (h.2 t).symm⟩
theorem Eqv.trans {s2 : St} (h : Eqv s s') (k : Eqv s' s2) : Eqv s s2 := ⟨fun t => (k.1 t).trans (h.1 t), fun q => (k.2 q).trans (h.2 q)⟩
theorem Eqv.sr (h : Eqv s s') (hs : SR N s loc β H S a w Wr own0 n0) : SR N s' loc β H S a w Wr own0 n0 := by
  have hroot : ∀ q, (s'.root q).like (s.root q) := fun q => by rw [h.2 q]; exact HE.like.rfl _
  exact ⟨fun t => by rw [encD_congr hroot, h.1 t]; exact hs.slots t, Heap.congr hroot hs.heap, hs.defers, hs.size⟩
theorem Eqv.view (h : Eqv s s') (L F : List Nat) : view L F s' = view L F s := by
  unfold Tm.view
  congr 1
  · exact List.map_congr_left fun t _ => by rw [h.1 t]
  · exact List.map_congr_left fun t _ => by rw [h.2 t]
theorem Eqv.clean (h : Eqv s s') {lo hi : Nat} (hc : Clean s lo hi) : Clean s' lo hi :=
  ⟨fun t r hr => hc.slots t r (by rw [← h.1 t]; exact hr), fun r h1 h2 => by rw [h.2 r]; exact hc.roots r h1 h2, fun r ty x hx => hc.vars r ty x (by rw [← h.2 r]; exact hx)⟩
theorem Eqv.fol (h : Eqv s s') (n : Nat) : Fol s loc s' loc n := fun q _ hl => by
  rw [h.2 q] at hl ⊢; exact ⟨hl, rfl, sameRt.refl (live_iff.1 hl).2⟩

end
end Go.Tm

namespace Go.Tm
open Go.Vm
set_option linter.unusedVariables false
set_option linter.unusedSimpArgs false

def upT (γ : G) (h old : HE) : HE := match γ with | .tt => h | γ => mergeHE γ.val h old
def resT (γ : G) (r : OpR) : T := match γ with | .tt => r.res | γ => mayT γ.val r.res

theorem stepSt_slot' (s : St) (γ : G) (dst : Option Tmp) (r : OpR) (t : Nat) : (stepSt s γ dst r).2.slot t = if dst = some t then resT γ r else s.slot t := by
  have h1 : (stepSt s γ dst r).2 = (addUp s γ r.up).put dst (resT γ r) := by cases γ <;> rfl
  rw [h1]
  cases dst with
  | none => rw [if_neg (by simp)]; exact addUp_slot' γ s t r.up
  | some d =>
    rw [slot_put]
    by_cases hd : d = t
    · rw [if_pos hd, if_pos (by rw [hd])]
    · rw [if_neg hd, if_neg (by simpa using hd), addUp_slot' γ s t r.up]

theorem stepSt_root' (s : St) (γ : G) (dst : Option Tmp) (r : OpR) (q : Nat) : (stepSt s γ dst r).2.root q = match look r.up q with | some h => upT γ h (s.root q) | none => s.root q := by
  have h1 : (stepSt s γ dst r).2 = (addUp s γ r.up).put dst (resT γ r) := by cases γ <;> rfl
  rw [h1, root_put]
  by_cases hγ : γ = .tt
  · subst hγ; exact addUp_root_tt s r.up q
  · rw [addUp_root γ s r.up q hγ]
    cases look r.up q with
    | none => rfl
    | some h =>
      simp only [upT]

theorem stepSt_ok (s s' : St) (γ : G) (dst : Option Tmp) (r : OpR) : (stepSt s γ dst r).1 = (stepSt s' γ dst r).1 := by cases γ <;> rfl

theorem guard_view (ops : Array Oper) (o : Oper) (F : List Nat) (s : St) : guardOf ops o (view (o.looksAt ops) F s) = guardOf ops o s := by
  unfold guardOf
  cases hg : o.guard with
  | none => rfl
  | some jw =>
    obtain ⟨j, want⟩ := jw
    simp only
    cases ht : (ops[j]?).bind (·.dst) with
    | none => rfl
    | some t =>
      simp only
      rw [view_slot, if_pos]
      unfold Oper.looksAt
      rw [hg]
      simp only
      rw [ht]
      exact List.mem_append_right _ (.head _)

theorem names_split {x a b : T} (h : x.split = some (a, b)) : (∀ q ∈ a.names, q ∈ x.names) ∧ ∀ q ∈ b.names, q ∈ x.names := split_names h

theorem mergeT_names (c : Bool) : ∀ (d : Nat) (x y : T), ∀ r ∈ (mergeT c d x y).names, r ∈ x.names ∨ r ∈ y.names
  | 0, x, y, r, h => by cases h
  | d + 1, x, y, r, h => by
    unfold mergeT at h
    split at h
    · split at h <;> cases h
    · rename_i g x' g' y'
      exact mergeT_names c d x' y' r h
    · rename_i g x' _
      exact mergeT_names c d x' y r h
    · rename_i g y' _
      exact mergeT_names c d x y' r h
    · split at h <;> cases h
    · cases h
    · cases h
    · rename_i r0 sz r1 sz1
      cases hb : Nat.beq r0 r1 && Nat.beq sz sz1 with
      | false => rw [hb] at h; cases h
      | true => rw [hb] at h; exact .inl h
    · rename_i r0 sz lo n r1 sz1 lo1 n1
      cases hb : Nat.beq r0 r1 && Nat.beq sz sz1 with
      | false => rw [hb] at h; cases h
      | true => rw [hb] at h; exact .inl h
    · split at h
      · exact .inl h
      · cases h
    · rename_i f x' f' y'
      cases hb : Nat.beq f f' && (mergeT c d x' y').solid with
      | false => rw [hb] at h; cases h
      | true => rw [hb] at h; exact mergeT_names c d x' y' r h
    · split at h
      · rename_i x' y' hx hy
        rcases mergeT_names c d x' y' r (names_mkRow _ r h) with h1 | h1
        · exact .inl (unrow_names hx r h1)
        · exact .inr (unrow_names hy r h1)
      · split at h
        · rename_i x1 x2 y1 y2 hx hy
          rcases List.mem_append.1 (names_mkPair _ _ r h) with h1 | h1
          · rcases mergeT_names c d x1 y1 r h1 with h2 | h2
            · exact .inl ((split_names hx).1 r h2)
            · exact .inr ((split_names hy).1 r h2)
          · rcases mergeT_names c d x2 y2 r h1 with h2 | h2
            · exact .inl ((split_names hx).2 r h2)
            · exact .inr ((split_names hy).2 r h2)
        · cases h

theorem mergeRt_names (c : Bool) (a b : Rt) : ∀ r ∈ (mergeRt c a b).names, r ∈ a.names ∨ r ∈ b.names := fun r h => by
  unfold mergeRt at h
  split at h
  · rename_i ty x ty' y
    split at h
    · cases h
    · cases hb : (mergeT c depth x y).solid && Nat.beq ty ty' with
      | false => rw [hb] at h; cases h
      | true => rw [hb] at h; exact mergeT_names c depth x y r h
  · split at h <;> cases h
  · cases h

theorem mergeHE_names (c : Bool) (a b : HE) : ∀ r ∈ (mergeHE c a b).rt.names, r ∈ a.rt.names ∨ r ∈ b.rt.names := fun r h => by
  unfold mergeHE at h
  split at h
  · cases h
  · exact .inl h
  · exact .inr h
  · exact mergeRt_names c _ _ r h

/-- A step of an operation that sees its own part. -/
def DStep (P : Program) (K : List Fun) (ops : Array Oper) (x : DEnt) (s s' : St) : Prop :=
  ∃ γ r, x.L = x.o.looksAt ops ∧ (∀ t ∈ x.L, ∀ p ∈ (s.slot t).names, p ∈ x.F) ∧ Drawn x.fr x.F s r ∧ r.up.map (·.1) = x.W ∧ guardOf ops x.o (view x.L x.F s) = some γ ∧ evOper P K x.fr x.o (view x.L x.F s) = some r ∧
    (stepSt s γ x.o.dst r).1.val = true ∧ Eqv (stepSt s γ x.o.dst r).2 s'

theorem DStep.eqv {P : Program} {K : List Fun} {ops : Array Oper} {x : DEnt} {s s1 s' : St} (h : DStep P K ops x s s') (he : Eqv s s1) : DStep P K ops x s1 s' := by
  obtain ⟨γ, r, h1, h2, h3, h4, h5, h6, h7, h8⟩ := h
  refine ⟨γ, r, h1, fun t ht p hp => h2 t ht p (by rw [← he.1 t]; exact hp), ⟨fun q hq p hp => h3.closed q hq p (by rw [← he.2 q]; exact hp), h3.low, h3.res, h3.up⟩, h4, by rw [he.view]; exact h5, by rw [he.view]; exact h6, by rw [stepSt_ok s1 s]; exact h7, ?_⟩
  refine Eqv.trans ⟨fun t => ?_, fun q => ?_⟩ h8
  · rw [stepSt_slot', stepSt_slot', he.1 t]
  · rw [stepSt_root', stepSt_root', he.2 q]

theorem indep_iff {ops : Array Oper} {x y : DEnt} (h : indep ops x y = true) : x.o.apart ops y.o = true ∧ (∀ q ∈ x.W, q ∉ y.F ∧ q ∉ y.W) ∧ (∀ q ∈ y.W, q ∉ x.F) ∧ (∀ q ∈ x.F, ¬ (y.fr ≤ q ∧ q < y.fr + stride)) ∧ ∀ q ∈ y.F, ¬ (x.fr ≤ q ∧ q < x.fr + stride) := by
  obtain ⟨h1, h⟩ := and2 h
  obtain ⟨h2, h⟩ := and2 h
  obtain ⟨h3, h⟩ := and2 h
  obtain ⟨h4, h5⟩ := and2 h
  have hn : ∀ (l : List Nat) (q : Nat), (!memB l q) = true → q ∉ l := fun l q h hm => by rw [memB_iff.2 hm] at h; cases h
  have hr : ∀ a b q : Nat, (!(Nat.ble a q && Nat.blt q b)) = true → ¬ (a ≤ q ∧ q < b) := fun a b q h hc => by
    rw [Nat.ble_eq_true_of_le hc.1, show Nat.blt q b = true from Nat.ble_eq_true_of_le hc.2] at h; cases h
  exact ⟨h1, fun q hq => ⟨hn _ _ (and2 (List.all_eq_true.1 h2 q hq)).1, hn _ _ (and2 (List.all_eq_true.1 h2 q hq)).2⟩, fun q hq => hn _ _ (List.all_eq_true.1 h3 q hq), fun q hq => hr _ _ _ (List.all_eq_true.1 h4 q hq), fun q hq => hr _ _ _ (List.all_eq_true.1 h5 q hq)⟩

theorem look_out {r : OpR} {W : List Nat} (h : r.up.map (·.1) = W) {q : Nat} (hq : q ∉ W) : look r.up q = none := by
  cases hl : look r.up q with
  | none => rfl
  | some x => exact absurd (h ▸ look_key hl) hq

theorem look_in {r : OpR} {W : List Nat} (h : r.up.map (·.1) = W) {q : Nat} {x : HE} (hq : look r.up q = some x) : q ∈ W := h ▸ look_key hq

/-- Two operations that do not touch each other bear either order. -/
theorem dswap {P : Program} {K : List Fun} {ops : Array Oper} {x y : DEnt} {s s1 s2 : St} (hi : indep ops x y = true) (h1 : DStep P K ops x s s1) (h2 : DStep P K ops y s1 s2) : ∃ s3, DStep P K ops y s s3 ∧ DStep P K ops x s3 s2 := by
  obtain ⟨i1, i2, i3, i4, i5⟩ := indep_iff hi
  obtain ⟨a1, a2, a3⟩ := Oper.apart_spec i1
  obtain ⟨γx, rx, x1, x2, x3, x4, x5, x6, x7, x8⟩ := h1
  obtain ⟨γy, ry, y1, y2, y3, y4, y5, y6, y7, y8⟩ := h2
  have hslot1 : ∀ t ∈ y.L, s1.slot t = s.slot t := fun t ht => by
    rw [x8.1 t, stepSt_slot', if_neg]
    intro hd
    rw [y1] at ht
    exact a1 t hd ht
  have hroot1 : ∀ q ∈ y.F, s1.root q = s.root q := fun q hq => by
    rw [x8.2 q, stepSt_root', look_out x4 (fun hw => (i2 q hw).1 hq)]
  have hview1 : view y.L y.F s1 = view y.L y.F s := by
    unfold view
    congr 1
    · exact List.map_congr_left fun t ht => by rw [hslot1 t ht]
    · exact List.map_congr_left fun q hq => by rw [hroot1 q hq]
  rw [hview1] at y5 y6
  have hslot3 : ∀ t ∈ x.L, (stepSt s γy y.o.dst ry).2.slot t = s.slot t := fun t ht => by
    rw [stepSt_slot', if_neg]
    intro hd
    rw [x1] at ht
    exact a3 t hd ht
  have hroot3 : ∀ q ∈ x.F, (stepSt s γy y.o.dst ry).2.root q = s.root q := fun q hq => by
    rw [stepSt_root', look_out y4 (fun hw => i3 q hw hq)]
  have hview3 : view x.L x.F (stepSt s γy y.o.dst ry).2 = view x.L x.F s := by
    unfold view
    congr 1
    · exact List.map_congr_left fun t ht => by rw [hslot3 t ht]
    · exact List.map_congr_left fun q hq => by rw [hroot3 q hq]
  refine ⟨(stepSt s γy y.o.dst ry).2, ⟨γy, ry, y1, fun t ht p hp => y2 t ht p (by rw [hslot1 t ht]; exact hp), ⟨fun q hq p hp => y3.closed q hq p (by rw [hroot1 q hq]; exact hp), y3.low, y3.res, y3.up⟩, y4, y5, y6, by rw [stepSt_ok s s1]; exact y7, Eqv.refl _⟩,
    ⟨γx, rx, x1, fun t ht p hp => x2 t ht p (by rw [← hslot3 t ht]; exact hp), ⟨fun q hq p hp => x3.closed q hq p (by rw [← hroot3 q hq]; exact hp), x3.low, x3.res, x3.up⟩, x4, by rw [hview3]; exact x5, by rw [hview3]; exact x6, by rw [stepSt_ok _ s]; exact x7, ⟨fun t => ?_, fun q => ?_⟩⟩⟩
  · rw [y8.1 t, stepSt_slot', stepSt_slot', stepSt_slot', x8.1 t, stepSt_slot']
    by_cases hx : x.o.dst = some t
    · rw [if_pos hx, if_neg (a2 t hx)]
      simp [hx]
    · simp [hx]
  · rw [y8.2 q, stepSt_root', stepSt_root', stepSt_root', x8.2 q, stepSt_root']
    cases hx : look rx.up q with
    | none =>
      cases hy : look ry.up q with
      | none => rfl
      | some h => rfl
    | some h =>
      rw [look_out y4 (i2 q (look_in x4 hx)).2]

/-- Operations of some numbers, one behind the other. -/
def Runs (P : Program) (K : List Fun) (ops : Array Oper) (T : List DEnt) : List Nat → St → St → Prop
  | [], s, s' => Eqv s s'
  | i :: l, s, s' => ∃ x s1, T[i]? = some x ∧ DStep P K ops x s s1 ∧ Runs P K ops T l s1 s'

theorem Runs.front {P : Program} {K : List Fun} {ops : Array Oper} {T : List DEnt} {j : Nat} {l2 : List Nat} : ∀ (l1 : List Nat) {s s' : St}, (∀ i ∈ l1, indepAt ops T i j = true) → Runs P K ops T (l1 ++ j :: l2) s s' →
    ∃ y s1, T[j]? = some y ∧ DStep P K ops y s s1 ∧ Runs P K ops T (l1 ++ l2) s1 s'
  | [], s, s', _, h => h
  | i :: l1, s, s', hi, h => by
    obtain ⟨x, s1, e1, e2, e3⟩ := h
    obtain ⟨y, s2, f1, f2, f3⟩ := Runs.front l1 (fun k hk => hi k (.tail _ hk)) e3
    have hin := hi i (.head _)
    unfold indepAt at hin
    rw [e1, f1] at hin
    obtain ⟨s3, g1, g2⟩ := dswap hin e2 f2
    exact ⟨y, s3, f1, g1, x, s2, e1, g2, f3⟩

section
variable {P : Program} {N : Nat} {o : Oper} {ops : Array Oper} {a : Act} {s s' : St} {loc loc' : Loc} {β β' : Nat → Option (Nat × Nat)} {H H' : List Ob} {S S' : Nat → Nat → Prop} {w w' : World} {Wr : Nat → Prop} {own0 : Nat → Prop} {n0 : Nat}

/-- A step of an operation that sees its own part, run. -/
theorem dstep_sound {K : List Fun} (hK : OpersOk P K) {x : DEnt} {i : Nat} {s1 : St} (hi : ops[i]? = some x.o) (hs : SR N s loc β H S a w Wr own0 n0) (hc : Clean s x.fr (x.fr + stride)) (hd : ∀ t, x.o.dst = some t → t < N) (h : DStep P K ops x s s1) {Q : Exit → Act → World → Prop} {KK : Act → World → Prop}
    (hcont : ∀ β' H' S' loc' a' w', SR N s1 loc' β' H' S' a' w' Wr own0 n0 → Gone Wr own0 n0 β H S w β' H' S' w' → Fol s loc s1 loc' x.fr → KK a' w') : wpOp P ops Q i KK a w := by
  obtain ⟨γ, r, h1, h2, h3, h4, h5, h6, h7, h8⟩ := h
  have hg : guardOf ops x.o s = some γ := by rw [h1, guard_view] at h5; exact h5
  have hst : stepSt s γ x.o.dst r = ((stepSt s γ x.o.dst r).1, (stepSt s γ x.o.dst r).2) := rfl
  obtain ⟨k1, k2⟩ := opStep (K := KK) (Q := Q) hs hc hd hg (fun hv hrok => doneW_view hK hs.heap hs.slots hc h2 h3 h6 hrok) hst h7 (fun β' H' S' loc' a' w' hs' hgo hf => hcont β' H' S' loc' a' w' (h8.sr hs') hgo ((hf.fol (Nat.le_refl _)).trans (h8.fol x.fr) (Nat.le_refl _)))
  unfold wpOp
  rw [hi]
  simp only
  split
  · rename_i hw; exact .inl (k1 hw)
  · rename_i hw; exact k2 (by simpa using hw)

/-- Names of others stay free. -/
theorem dstep_clean {K : List Fun} {x : DEnt} {s1 : St} {lo : Nat} (hc : Clean s lo (lo + stride)) (h : DStep P K ops x s s1) (h1 : ∀ q ∈ x.F, ¬ (lo ≤ q ∧ q < lo + stride)) (h2 : lo + stride ≤ x.fr ∨ x.fr + stride ≤ lo) : Clean s1 lo (lo + stride) := by
  obtain ⟨γ, r, e1, e2, e3, e4, e5, e6, e7, e8⟩ := h
  have hout : ∀ p, p ∈ x.F ∨ (x.fr ≤ p ∧ p < x.fr + stride) → ¬ (lo ≤ p ∧ p < lo + stride) := fun p hp hk => by
    rcases hp with hp | hp
    · exact h1 p hp hk
    · omega
  have hmay : ∀ y : T, (resT γ r).names = r.res.names := fun _ => by
    unfold resT
    cases γ with
    | tt => rfl
    | ff => cases hr : r.res <;> rfl
    | of c => cases hr : r.res <;> rfl
  refine Eqv.clean e8 ⟨fun t p hp => ?_, fun q k1 k2 => ?_, fun q ty z hz p hp => ?_⟩
  · rw [stepSt_slot'] at hp
    split at hp
    · rw [hmay .undef] at hp; exact hout p (e3.res p hp)
    · exact hc.slots t p hp
  · rw [stepSt_root']
    cases hl : look r.up q with
    | none => exact hc.roots q k1 k2
    | some h => exact absurd ⟨k1, k2⟩ (hout q (e3.up _ (look_mem _ _ _ hl)).1)
  · rw [stepSt_root'] at hz
    cases hl : look r.up q with
    | none => rw [hl] at hz; exact hc.vars q ty z hz p hp
    | some h =>
      rw [hl] at hz
      simp only at hz
      have hup := (e3.up _ (look_mem _ _ _ hl)).2
      have hnm : p ∈ h.rt.names ∨ p ∈ (s.root q).rt.names := by
        unfold upT at hz
        cases γ with
        | tt => simp only at hz; rw [hz]; exact .inl hp
        | ff => exact mergeHE_names _ _ _ p (by simp only at hz; rw [hz]; exact hp)
        | of c => exact mergeHE_names _ _ _ p (by simp only at hz; rw [hz]; exact hp)
      rcases hnm with hn | hn
      · exact hout p (hup p hn)
      · cases hx : (s.root q).rt with
        | var ty' z' => rw [hx] at hn; exact hc.vars q ty' z' hx p hn
        | arr t L fz => rw [hx] at hn; cases hn
        | gone => rw [hx] at hn; cases hn

end
end Go.Tm

namespace Go.Tm
open Go.Vm
set_option linter.unusedVariables false
set_option linter.unusedSimpArgs false

inductive Reach (ops : Array Oper) : Nat → Nat → Prop
  | one {i j o} : ops[j]? = some o → i ∈ bound o → Reach ops i j
  | more {i k j o} : ops[j]? = some o → k ∈ bound o → Reach ops i k → Reach ops i j

theorem orAll_bit {acc : List Nat} {i : Nat} : ∀ {ks : List Nat}, (orAll acc ks).testBit i = true → ∃ k ∈ ks, i = k ∨ ((acc[k]?).getD 0).testBit i = true
  | [], h => by simp [orAll] at h
  | k :: ks, h => by
    simp only [orAll, Nat.testBit_or, Bool.or_eq_true] at h
    rcases h with (h | h) | h
    · rw [Nat.testBit_two_pow] at h
      exact ⟨k, .head _, .inl (by simpa using (of_decide_eq_true h).symm)⟩
    · exact ⟨k, .head _, .inr h⟩
    · obtain ⟨k', hk, hh⟩ := orAll_bit h
      exact ⟨k', .tail _ hk, hh⟩

theorem closeB_reach {ops : Array Oper} : ∀ (l : List Oper) (acc : List Nat), (∀ j, l[j]? = ops[acc.length + j]?) → (∀ (j b : Nat), acc[j]? = some b → ∀ i, b.testBit i = true → Reach ops i j) →
    ∀ (j b : Nat), (closeB l acc)[j]? = some b → ∀ i, b.testBit i = true → Reach ops i j
  | [], acc, hl, h, j, b, hj, i, hi => h j b hj i hi
  | o :: l, acc, hl, h, j, b, hj, i, hi => by
    refine closeB_reach l (acc ++ [orAll acc (bound o)]) (fun j => ?_) (fun j b hj i hi => ?_) j b hj i hi
    · have := hl (j + 1)
      simp only [List.getElem?_cons_succ] at this
      rw [this, List.length_append, List.length_singleton]
      congr 1
      omega
    · rw [List.getElem?_append] at hj
      split at hj
      · exact h j b hj i hi
      · rename_i hlt
        have hj0 : j = acc.length := by
          have := (List.getElem?_eq_some_iff.1 hj).1
          simp at this
          omega
        subst hj0
        simp only [Nat.sub_self, List.getElem?_cons_zero, Option.some.injEq] at hj
        subst hj
        have ho : ops[acc.length]? = some o := by simpa using (hl 0).symm
        obtain ⟨k, hk, hk2⟩ := orAll_bit hi
        rcases hk2 with rfl | hk2
        · exact .one ho hk
        · cases hq : acc[k]? with
          | none => rw [hq] at hk2; simp at hk2
          | some b0 =>
            rw [hq] at hk2
            exact .more ho hk (h k b0 hq i hk2)
theorem anyRuns {P : Program} {N nx : Nat} {K : List Fun} {ops : Array Oper} {T : List DEnt} {cl : List Nat} {sf : St} {Wr : Nat → Prop} {own0 : Nat → Prop} {n0 : Nat} {Q : Exit → Act → World → Prop} (hK : OpersOk P K)
    (hT : ∀ (i : Nat) x, T[i]? = some x → ops[i]? = some x.o ∧ x.fr = nx + stride * i ∧ ∀ t, x.o.dst = some t → t < N)
    (hcl : ∀ (j b : Nat), cl[j]? = some b → ∀ i, b.testBit i = true → Reach ops i j)
    (hb : ∀ (j : Nat) o, ops[j]? = some o → ∀ k ∈ bound o, k < j) :
    ∀ (fuel : Nat) (l : List Nat) (listed : Array Bool) (s : St) (loc : Loc) (β : Nat → Option (Nat × Nat)) (H : List Ob) (S : Nat → Nat → Prop) (a : Act) (w : World),
      l.length ≤ fuel → listed.size = ops.size → (∀ i, i ∈ l ↔ (i < ops.size ∧ listed.getD i false = false)) → l.Pairwise (· < ·) → l.Pairwise (fun i j => pairOk ops T cl i j = true) →
      (∀ j o, ops[j]? = some o → listed.getD j false = true → ∀ k ∈ bound o, listed.getD k false = true) →
      Runs P K ops T l s sf → SR N s loc β H S a w Wr own0 n0 → (∀ i ∈ l, Clean s (nx + stride * i) (nx + stride * i + stride)) →
      (∀ β' H' S' loc' a' w', SR N sf loc' β' H' S' a' w' Wr own0 n0 → Gone Wr own0 n0 β H S w β' H' S' w' → Fol s loc sf loc' nx → Q .normal a' w') → wpAny P .any ops Q fuel listed a w := by
  have hready : ∀ (l : List Nat) (listed : Array Bool), listed.size = ops.size → (∀ i, i ∈ l ↔ (i < ops.size ∧ listed.getD i false = false)) → l.Pairwise (· < ·) → Region.ready .any ops listed = [] → l = [] := by
    intro l listed hsz hl hlt hr
    cases l with
    | nil => rfl
    | cons i l =>
      exfalso
      obtain ⟨h1, h2⟩ := (hl i).1 (.head _)
      have hmem : i ∈ Region.ready .any ops listed := by
        rw [mem_ready]
        refine ⟨?_, ops[i], Array.getElem?_eq_getElem h1, fun e he hbd => ?_⟩
        · have : i < listed.size := by omega
          simp [Array.getElem?_eq_getElem this] at h2 ⊢
          exact h2
        · have hk : e.on ∈ bound ops[i] := by
            unfold bound
            exact List.mem_map.2 ⟨e, List.mem_filter.2 ⟨by simpa using he, hbd⟩, rfl⟩
          have hki := hb i _ (Array.getElem?_eq_getElem h1) _ hk
          cases hq : listed.getD e.on false with
          | true => rfl
          | false =>
            have hin := (hl e.on).2 ⟨by omega, hq⟩
            cases hin with
            | head => omega
            | tail _ hin =>
              have := (List.pairwise_cons.1 hlt).1 _ hin
              omega
      rw [hr] at hmem
      cases hmem
  intro fuel
  induction fuel with
  | zero =>
    intro l listed s loc β H S a w hlen hsz hl hlt hpw hdn hrun hs hcl0 hQ
    have hl0 : l = [] := List.eq_nil_of_length_eq_zero (by omega)
    subst hl0
    refine ⟨?_, hQ β H S loc a w (Eqv.sr hrun hs) (Gone.refl _ _ _ _ _ _ _) (Eqv.fol hrun nx)⟩
    cases hr : Region.ready .any ops listed with
    | nil => rfl
    | cons i rs =>
      have hi : i ∈ Region.ready .any ops listed := by rw [hr]; exact .head _
      rw [mem_ready] at hi
      obtain ⟨h1, o, ho, _⟩ := hi
      have hlt := (Array.getElem?_eq_some_iff.1 ho).1
      have : i ∈ ([] : List Nat) := (hl i).2 ⟨hlt, by
        have h3 : i < listed.size := by omega
        simp [Array.getElem?_eq_getElem h3] at h1 ⊢
        exact h1⟩
      cases this
  | succ fuel ih =>
    intro l listed s loc β H S a w hlen hsz hl hlt hpw hdn hrun hs hcl0 hQ
    refine ⟨fun hr => ?_, fun j hj => ?_⟩
    · have hl0 := hready l listed hsz hl hlt hr
      subst hl0
      exact hQ β H S loc a w (Eqv.sr hrun hs) (Gone.refl _ _ _ _ _ _ _) (Eqv.fol hrun nx)
    · obtain ⟨h1, o, ho, hall⟩ := mem_ready.1 hj
      have hjlt := (Array.getElem?_eq_some_iff.1 ho).1
      have hjl : listed.getD j false = false := by
        have h3 : j < listed.size := by omega
        simp [Array.getElem?_eq_getElem h3] at h1 ⊢
        exact h1
      have hjm : j ∈ l := (hl j).2 ⟨hjlt, hjl⟩
      obtain ⟨l1, l2, rfl⟩ := List.append_of_mem hjm
      have hdirect : ∀ k ∈ bound o, listed.getD k false = true := fun k hk => by
        unfold bound at hk
        obtain ⟨e, he, rfl⟩ := List.mem_map.1 hk
        obtain ⟨he1, he2⟩ := List.mem_filter.1 he
        exact hall e (by simpa using he1) he2
      have hreach : ∀ i j', Reach ops i j' → (∀ o', ops[j']? = some o' → ∀ k ∈ bound o', listed.getD k false = true) → listed.getD i false = true := by
        intro i j' hre
        induction hre with
        | one h1 h2 => intro h3; exact h3 _ h1 _ h2
        | more h1 h2 _ ih2 => intro h3; exact ih2 fun o' ho' => hdn _ o' ho' (h3 _ h1 _ h2)
      have hin : ∀ i ∈ l1, indepAt ops T i j = true := fun i hi => by
        have hp0 : pairOk ops T cl i j = true := (List.pairwise_append.1 hpw).2.2 i hi j (.head _)
        unfold pairOk at hp0
        simp only [Bool.or_eq_true] at hp0
        rcases hp0 with hp0 | hp0
        · exfalso
          cases hq : cl[j]? with
          | none => rw [hq] at hp0; simp at hp0
          | some b =>
            rw [hq] at hp0
            have hli := hreach i j (hcl j b hq i hp0) (fun o' ho' => by rw [ho] at ho'; cases ho'; exact hdirect)
            have := ((hl i).1 (List.mem_append_left _ hi)).2
            rw [hli] at this
            cases this
        · exact hp0
      obtain ⟨y, s1, f1, f2, f3⟩ := Runs.front l1 hin hrun
      obtain ⟨t1, t2, t3⟩ := hT j y f1
      have hnd : (l1 ++ j :: l2).Nodup := hlt.imp (fun h he => by omega)
      have hlow : ∀ q ∈ y.F, q < nx + stride * j := fun q hq => by
        obtain ⟨_, _, _, _, e3, _⟩ := f2
        have := e3.low q hq
        rw [t2] at this; exact this
      have hclean : ∀ i ∈ l1 ++ l2, Clean s1 (nx + stride * i) (nx + stride * i + stride) := fun i hi => by
        have hne : i ≠ j := fun he => by
          subst he
          rw [List.nodup_append] at hnd
          obtain ⟨_, n2, n3⟩ := hnd
          rcases List.mem_append.1 hi with hm | hm
          · exact n3 i hm i (.head _) rfl
          · exact (List.nodup_cons.1 n2).1 hm
        have hst : stride * i + stride = stride * (i + 1) := by rw [Nat.mul_succ]
        have hst' : stride * j + stride = stride * (j + 1) := by rw [Nat.mul_succ]
        refine dstep_clean (hcl0 i (by rcases List.mem_append.1 hi with h | h <;> simp [h])) f2 (fun q hq hk => ?_) ?_
        · rcases List.mem_append.1 hi with hm | hm
          · have := hin i hm
            unfold indepAt at this
            rw [f1] at this
            cases hti : T[i]? with
            | none => rw [hti] at this; cases this
            | some x =>
              rw [hti] at this
              obtain ⟨_, _, _, _, i5⟩ := indep_iff this
              obtain ⟨_, u2, _⟩ := hT i x hti
              rw [u2] at i5
              exact i5 q hq hk
          · have hij : j < i := by
              have := (List.pairwise_append.1 hlt).2.1
              exact (List.pairwise_cons.1 this).1 i hm
            have := hlow q hq
            have : stride * (j + 1) ≤ stride * i := Nat.mul_le_mul_left _ hij
            omega
        · rw [t2]
          rcases Nat.lt_or_gt_of_ne hne with hlt' | hlt'
          · have : stride * (i + 1) ≤ stride * j := Nat.mul_le_mul_left _ hlt'
            exact .inl (by omega)
          · have : stride * (j + 1) ≤ stride * i := Nat.mul_le_mul_left _ hlt'
            exact .inr (by omega)
      refine dstep_sound hK t1 hs (by rw [t2]; exact hcl0 j (by simp)) t3 f2 fun β1 H1 S1 loc1 a1 w1 hs1 hg1 hf1 => ?_
      have hnxj : nx ≤ y.fr := by rw [t2]; omega
      refine ih (l1 ++ l2) _ s1 loc1 β1 H1 S1 a1 w1 (by simp at hlen ⊢; omega) (by simpa using hsz) (fun i => ?_) (hlt.sublist (by simp)) (hpw.sublist (by simp)) ?_ f3 hs1 hclean (fun β' H' S' loc' a' w' hs' hg' hf' => hQ β' H' S' loc' a' w' hs' (hg1.trans hg') (Fol.trans (n := nx) (m := nx) (fun q hq hl => hf1 q (by omega) hl) hf' (Nat.le_refl _)))
      · by_cases hij : i = j
        · subst hij
          have hn : i ∉ l1 ++ l2 := by
            rw [List.nodup_append] at hnd
            obtain ⟨_, n2, n3⟩ := hnd
            intro hm
            rcases List.mem_append.1 hm with hm | hm
            · exact n3 i hm i (.head _) rfl
            · exact (List.nodup_cons.1 n2).1 hm
          refine ⟨fun hm => absurd hm hn, fun hh => ?_⟩
          have h3 : i < listed.size := by omega
          rw [Array.getD_eq_getD_getElem?, Array.getElem?_setIfInBounds_self_of_lt h3] at hh
          simp at hh
        · have hne : (listed.setIfInBounds j true).getD i false = listed.getD i false := getD_set_ne false (fun h => hij h.symm)
          rw [hne, ← hl i]
          simp only [List.mem_append, List.mem_cons]
          constructor
          · rintro (h | h)
            · exact .inl h
            · exact .inr (.inr h)
          · rintro (h | h | h)
            · exact .inl h
            · exact absurd h hij
            · exact .inr h
      · intro j' o' ho' hlj k hk
        by_cases hjj : j' = j
        · subst hjj
          rw [ho] at ho'
          cases ho'
          exact getD_set_true (hdirect k hk)
        · rw [getD_set_ne false (fun h => hjj h.symm)] at hlj
          exact getD_set_true (hdn j' o' ho' hlj k hk)


end Go.Tm

namespace Go.Tm
open Go.Vm
set_option linter.unusedVariables false
set_option linter.unusedSimpArgs false

section
variable {P : Program} {N : Nat} {ops : Array Oper} {a : Act} {s s' : St} {loc loc' : Loc} {β β' : Nat → Option (Nat × Nat)} {H H' : List Ob} {S S' : Nat → Nat → Prop} {w w' : World} {Wr : Nat → Prop} {own0 : Nat → Prop} {n0 : Nat}

theorem moreD_some {x : DEnt} {r : Option (G × St × List DEnt)} {g : G} {s : St} {T : List DEnt} (h : moreD x r = some (g, s, T)) : ∃ T', r = some (g, s, T') ∧ T = x :: T' := by
  unfold moreD at h
  split at h
  · simp only [Option.some.injEq, Prod.mk.injEq] at h
    obtain ⟨rfl, rfl, rfl⟩ := h
    exact ⟨_, rfl, rfl⟩
  · cases h

theorem drawOps_runs {K : List Fun} {nx : Nat} : ∀ (l : List Oper) (j : Nat) (T0 : List DEnt) (g g' : G) (s s' : St) (T : List DEnt), T0.length = j → drawOps P K ops nx j l (g, s) = some (g', s', T) → g'.val = true → Below s (nx + stride * j) →
    g.val = true ∧ Runs P K ops (T0 ++ T) (List.range' j l.length) s s' ∧ T.length = l.length ∧ (∀ (i : Nat) x, T[i]? = some x → l[i]? = some x.o ∧ x.fr = nx + stride * (j + i)) ∧ Below s' (nx + stride * (j + l.length)) ∧ Grows s s'
  | [], j, T0, g, g', s, s', T, hT0, h, hg, hb => by
    simp only [drawOps, Option.some.injEq, Prod.mk.injEq] at h
    obtain ⟨rfl, rfl, rfl⟩ := h
    exact ⟨hg, Eqv.refl _, rfl, fun i x hx => by simp at hx, hb, Grows.refl _⟩
  | o :: l, j, T0, g, g', s, s', T, hT0, h, hg, hb => by
    unfold drawOps at h
    generalize footOf s (o.looksAt ops) = F' at h
    dsimp only at h
    · split at h
      · rename_i γ r hγ hr
        split at h
        · rename_i hc
          obtain ⟨hc1, hc2⟩ := and2 hc
          generalize hst : stepSt s γ o.dst r = z at h
          obtain ⟨g1, s1⟩ := z
          simp only at h
          split at h
          · rename_i hn
            obtain ⟨T', hT', rfl⟩ := moreD_some h
            obtain ⟨new, e1, e2⟩ := stepSt_hp (s := s) γ o.dst r
            have hb1 : Below s1 (nx + stride * (j + 1)) := by
              refine below_news (k := r.up.length) (dst := o.dst) hb (Nat.add_le_add_left (Nat.mul_le_mul_left _ (Nat.le_succ _)) _) (fun t ht => ?_) (new := new) ?_ e2 hn
              · have := stepSt_slot (s := s) γ o.dst r t ht
                rw [hst] at this; exact this
              · rw [hst] at e1; exact e1
            obtain ⟨k1, k2, k3, k4, k5, k6⟩ := drawOps_runs l (j + 1) (T0 ++ [⟨o, nx + stride * j, o.looksAt ops, F', r.up.map (·.1)⟩]) _ g' s1 s' T' (by simp [hT0]) hT' hg hb1
            rw [G.and_val] at k1
            obtain ⟨hg0, hg1⟩ := and2 k1
            refine ⟨hg0, ⟨⟨o, nx + stride * j, o.looksAt ops, F', r.up.map (·.1)⟩, s1, ?_, ⟨γ, r, rfl, fun t ht p hp => memB_iff.1 (List.all_eq_true.1 (List.all_eq_true.1 hc1 t ht) p hp), drawn_of hc2, rfl, hγ, hr, ?_, ?_⟩, ?_⟩, by simp [k3], fun i x hx => ?_, ?_, ?_⟩
            · rw [← hT0]; simp
            · rw [hst]; exact hg1
            · rw [hst]; exact Eqv.refl _
            · simpa [List.append_assoc] using k2
            · cases i with
              | zero =>
                simp at hx
                subst hx
                exact ⟨rfl, rfl⟩
              | succ i =>
                obtain ⟨m1, m2⟩ := k4 i x (by simpa using hx)
                exact ⟨by simpa using m1, by rw [m2]; congr 2; omega⟩
            · rw [List.length_cons, show j + (l.length + 1) = j + 1 + l.length by omega]; exact k5
            · have h1 : ∃ x, (stepSt s γ o.dst r).2 = (addUp s γ r.up).put o.dst x := by cases γ <;> exact ⟨_, rfl⟩
              obtain ⟨x, h1⟩ := h1
              rw [hst] at h1
              simp only at h1
              rw [h1] at k6
              exact ((addUp_grows γ s r.up).trans (Grows.put _ _ _)).trans k6
          · cases h
        · cases h
      · cases h

theorem evo_drawn : Evo Wr S w { w with drawn := w.drawn + 1 } :=
  ⟨rfl, rfl, rfl, Nat.le_refl _, fun _ _ _ => rfl, fun _ _ _ => rfl, fun _ arr _ h => ⟨arr, h, rfl⟩⟩

theorem hrel_drawn (h : HRel β H S w Wr) : HRel β H S { w with drawn := w.drawn + 1 } Wr := h.of_heap rfl rfl rfl rfl

theorem SR.drawn (h : SR N s loc β H S a w Wr own0 n0) : SR N s loc β H S a { w with drawn := w.drawn + 1 } Wr own0 n0 :=
  ⟨fun t => RelD.step (Ext.refl _ _ _) (evo_drawn (Wr := Wr)) _ _ (h.slots t), ⟨hrel_drawn h.heap.heap, h.heap.at_, h.heap.inj, h.heap.own, h.heap.len, h.heap.fresh⟩, h.defers, h.size⟩

theorem gone_drawn : Gone Wr own0 n0 β H S w β H S { w with drawn := w.drawn + 1 } := ⟨Ext.refl _ _ _, evo_drawn, fun _ _ h => .inl h, fun _ _ _ => rfl⟩

theorem sound_draw {K : List Fun} {id : Nat} (hK : OpersOk P K) (hd : ∀ o ∈ ops.toList, ∀ t, o.dst = some t → t < N) (hmx : P.follows .mixedOrders = true) {g : G} {s1 : St} {T : List DEnt} (h : drawOps P K ops s.nx 0 ops.toList (.tt, s) = some (g, s1, T)) (hok : drawOk ops T = true) :
    Sound P N (.region id ops true) s ⟨g, [(exN, .tt, { s1 with nx := s.nx + stride * ops.size })]⟩ where
  grows := fun k g' s' hk => by
    rw [look_cons] at hk
    split at hk
    · simp only [Option.some.injEq, Prod.mk.injEq] at hk
      obtain ⟨_, rfl⟩ := hk
      have hg : ∀ (l : List Oper) (j : Nat) (g g' : G) (s s' : St) (T : List DEnt), drawOps P K ops s.nx j l (g, s) = some (g', s', T) → True := fun _ _ _ _ _ _ _ _ => trivial
      have hgr : ∀ (l : List Oper) (nx j : Nat) (g g' : G) (s s' : St) (T : List DEnt), drawOps P K ops nx j l (g, s) = some (g', s', T) → Grows s s' := by
        intro l
        induction l with
        | nil =>
          intro nx j g g' s s' T h
          simp only [drawOps, Option.some.injEq, Prod.mk.injEq] at h
          obtain ⟨_, rfl, _⟩ := h
          exact Grows.refl _
        | cons o l ih =>
          intro nx j g g' s s' T h
          unfold drawOps at h
          generalize footOf s (o.looksAt ops) = F at h
          dsimp only at h
          split at h
          · rename_i γ r hγ hr
            split at h
            · generalize hst : stepSt s γ o.dst r = z at h
              obtain ⟨g1, s1⟩ := z
              simp only at h
              split at h
              · obtain ⟨T', hT', _⟩ := moreD_some h
                have k6 := ih _ _ _ _ _ _ _ hT'
                have h1 : ∃ x, (stepSt s γ o.dst r).2 = (addUp s γ r.up).put o.dst x := by cases γ <;> exact ⟨_, rfl⟩
                obtain ⟨x, h1⟩ := h1
                rw [hst] at h1
                simp only at h1
                rw [h1] at k6
                exact ((addUp_grows γ s r.up).trans (Grows.put _ _ _)).trans k6
              · cases h
            · cases h
          · cases h
      have := hgr _ _ _ _ _ _ _ _ h
      exact ⟨⟨this.1, this.2⟩, Nat.le_add_right _ _⟩
    · cases hk
  runs := fun hgv loc β H S a w Wr own0 n0 Q hb hs hQ => by
    obtain ⟨r1, r2, r3, r4, r5, _⟩ := drawOps_runs ops.toList 0 [] .tt g s s1 T rfl h hgv (by simpa using hb)
    unfold drawOk at hok
    simp only [List.all_eq_true, List.mem_range, Bool.and_eq_true] at hok
    have hcl := closeB_reach (ops := ops) ops.toList [] (fun j => by simp) (fun j b hj => by simp at hj)
    refine wp_region_any hmx (anyRuns (T := T) (nx := s.nx) (cl := closeB ops.toList []) hK (fun i x hx => ?_) hcl (fun j o ho k hk => ?_) ops.size (List.range' 0 ops.size) _ s loc β H S a _ (by simp) (by simp) (fun i => ?_) ?_ ?_ ?_ (by simpa using r2) hs.drawn (fun i _ => ?_) ?_)
    · obtain ⟨m1, m2⟩ := r4 i x hx
      have m1' : ops[i]? = some x.o := by simpa using m1
      refine ⟨m1', by rw [m2, Nat.zero_add], fun t ht => hd x.o ?_ t ht⟩
      exact List.mem_of_getElem? m1
    · have := (hok j (Array.getElem?_eq_some_iff.1 ho).1).1
      rw [ho] at this
      simp only [List.all_eq_true] at this
      exact Nat.le_of_ble_eq_true (this k hk)
    · rw [List.mem_range'_1]
      constructor
      · intro hi
        have hlt : i < (Array.replicate ops.size false).size := by simp; omega
        exact ⟨by omega, by rw [Array.getD_eq_getD_getElem?, Array.getElem?_eq_getElem hlt]; simp⟩
      · intro hi
        omega
    · exact List.pairwise_lt_range'
    · rw [List.pairwise_iff_getElem]
      intro i j hi hj hij
      simp only [List.length_range'] at hi hj
      simp only [List.getElem_range', Nat.zero_add, Nat.one_mul]
      exact (hok j hj).2 i hij
    · intro j o ho hlj
      exfalso
      have hlt : j < (Array.replicate ops.size false).size := by simpa using (Array.getElem?_eq_some_iff.1 ho).1
      rw [Array.getD_eq_getD_getElem?, Array.getElem?_eq_getElem hlt] at hlj
      simp at hlj
    · exact (hb _).sub (by omega) (Nat.le_refl _)
    · intro β' H' S' loc' a' w' hs' hg' hf'
      have hroot : ∀ q, (({ s1 with nx := s.nx + stride * ops.size } : St).root q).like (s1.root q) := fun q => HE.like.rfl _
      refine hQ exN .tt _ (by rw [look_cons, if_pos rfl]) rfl (fun j hj => by
        unfold Out.at
        rw [look_cons, if_neg (fun h => hj h.symm)]
        rfl) β' H' S' loc' a' w' ⟨fun t => by rw [encD_congr hroot]; exact hs'.slots t, Heap.congr hroot hs'.heap, hs'.defers, hs'.size⟩ (gone_drawn.trans hg') (fun q hq hl => hf' q hq hl) (fun hi => ?_)
      have := r5 hi
      rw [Nat.zero_add, Array.length_toList] at this
      exact ⟨this.slots, this.roots, this.vars⟩

theorem sound_loop {b : Code} {B : St → Out} {tag : Nat} {dead : List Nat} {lh : LH} (hB : ∀ sx, Sound P N b sx (B sx)) (s0 : St) : Sound P N (.loop b) s0 (evLoop tag B s0 dead lh) := by
  unfold evLoop
  have hA := fun loc β H S act w Wr own0 n0 (hb : Below s0 s0.nx) (hs : SR N s0 loc β H S act w Wr own0 n0) => adaptSlots_sound (b := lh.tgt) lh.tv (n := s0.nx) hs hb
  obtain ⟨g1, gn1, _⟩ := adaptSlots_grows lh.tgt lh.tv s0 s0.nx
  generalize adaptSlots lh.tgt lh.tv s0 s0.nx = z1 at hA g1 gn1 ⊢
  obtain ⟨a1, n1⟩ := z1
  unfold evLoopA
  simp only at hA g1 gn1 ⊢
  have hA2 := fun loc β H S act w Wr own0 n0 (hb : Below a1 n1) (hs : SR N a1 loc β H S act w Wr own0 n0) => adaptRoots_sound (b := lh.tgt) lh.tr (n := n1) hs hb
  obtain ⟨g2, gn2, _⟩ := adaptRoots_grows lh.tgt lh.tr a1 n1
  generalize adaptRoots lh.tgt lh.tr a1 n1 = z2 at hA2 g2 gn2 ⊢
  obtain ⟨a2, n2⟩ := z2
  unfold evLoopB
  simp only at hA2 g2 gn2 ⊢
  have hg0 : Grows s0 { a2 with nx := n2 } := by
    have := g1.trans g2
    exact ⟨this.1, this.2⟩
  have hn0 : s0.nx ≤ ({ a2 with nx := n2 } : St).nx := Nat.le_trans gn1 gn2
  have hsr : ∀ loc β H S act w Wr own0 n0, Below s0 s0.nx → SR N s0 loc β H S act w Wr own0 n0 → ∃ loc1 β1 H1 S1, SR N { a2 with nx := n2 } loc1 β1 H1 S1 act w Wr own0 n0 ∧ Gone Wr own0 n0 β H S w β1 H1 S1 w ∧ Fol s0 loc { a2 with nx := n2 } loc1 s0.nx ∧ Below { a2 with nx := n2 } ({ a2 with nx := n2 } : St).nx := by
    intro loc β H S act w Wr own0 n0 hb hs
    obtain ⟨_, l1, β1, H1, S1, p1, p2, p3, p4⟩ := hA loc β H S act w Wr own0 n0 hb hs
    obtain ⟨_, l2, β2, H2, S2, q1, q2, q3, q4⟩ := hA2 l1 β1 H1 S1 act w Wr own0 n0 p4 p1
    have hroot : ∀ q, (({ a2 with nx := n2 } : St).root q).like (a2.root q) := fun q => HE.like.rfl _
    refine ⟨l2, β2, H2, S2, ⟨fun t => by rw [encD_congr hroot]; exact q1.slots t, Heap.congr hroot q1.heap, q1.defers, q1.size⟩, p2.trans q2, fun q hq hl => (p3.trans q3 gn1) q hq hl, fun hi => ?_⟩
    exact ⟨(q4 hi).slots, (q4 hi).roots, (q4 hi).vars⟩
  clear hA hA2
  generalize ({ a2 with nx := n2 } : St) = s at hg0 hn0 hsr ⊢
  unfold loopFrom
  generalize headPs s lh = ps
  unfold loopBy
  split
  · rename_i hc
    obtain ⟨hc1, hc2⟩ := and2 hc
    unfold loopAt
    cases hbind : bindTo s ps ((headBy s lh ps).ts.map (·.2)) (lh.vs.map fun v => s.slot v) (headBy s lh ps).rs with
    | none => exact sound_bad
    | some x =>
      obtain ⟨g, lv⟩ := x
      simp only
      cases hh : headSt s dead (headBy s lh ps) lv with
      | none => exact sound_bad
      | some sx =>
        cases hx : HL.of (headBy s lh ps).tys lv with
        | none => exact sound_bad
        | some x0 =>
          simp only
          have hleaf := HL.of_leaves _ _ _ hx
          have hkeys : (headBy s lh ps).rs.map (·.1) = ps.map (·.1) := by unfold headBy; simp only; rw [List.map_map]; rfl
          have hstay : ∀ k ∈ lh.rs, k < s.nx ∧ (k, k) ∈ ps := fun k hk => by
            obtain ⟨h1, h2⟩ := and2 (List.all_eq_true.1 hc2 k hk)
            obtain ⟨⟨p1, p2⟩, h3, h4⟩ := List.any_eq_true.1 h2
            obtain ⟨h5, h6⟩ := and2 h4
            have h5 := beq2 h5
            have h6 := beq2 h6
            simp only at h5 h6
            subst h5; subst h6
            exact ⟨Nat.le_of_ble_eq_true h1, h3⟩
          have hkey : ∀ k ∈ (headBy s lh ps).rs.map (·.1), k ∈ lh.rs ∨ s.nx ≤ k := fun k hk => by
            rw [hkeys] at hk
            have := List.all_eq_true.1 hc1 k hk
            rw [Bool.or_eq_true] at this
            rcases this with h1 | h1
            · exact .inr (Nat.le_of_ble_eq_true h1)
            · exact .inl (memB_iff.1 h1)
          have ho : Below s s.nx → HeadOk s lh.rs (headBy s lh ps) := fun hbel => ⟨hbel, Nat.le_add_right _ _, hkey⟩
          refine loop_outs hB ho (by rw [hleaf]; exact hh) hg0 hn0 fun hgv loc β H S act w Wr own0 n0 hb hs => ?_
          obtain ⟨l1, β1, H1, S1, p1, p2, p3, hbel⟩ := hsr loc β H S act w Wr own0 n0 hb hs
          obtain ⟨hon, _, hkk, _⟩ := bind_some hbind hgv
          have hpp : ∀ p, p < s.nx → p ∈ ps.map (·.1) → (p, p) ∈ ps := fun p hp hk => by
            rcases hkey p (by rw [hkeys]; exact hk) with h1 | h1
            · exact (hstay p h1).2
            · omega
          have hbind' : bindTo s ps ((headBy s lh ps).ts.map (·.2)) ((headBy s lh ps).ts.map fun x => s.slot x.1) (headBy s lh ps).rs = some (g, lv) := by
            rw [← hbind]
            congr 1
            unfold headBy
            simp only
            rw [List.map_map]; rfl
          have hout : ∀ q, q ∉ (headBy s lh ps).rs.map (·.1) → q ∉ (headBy s lh ps).old → q ∉ ps.map (·.2) := fun q hq1 hq2 hr => by
            by_cases hst : q ∈ lh.rs
            · exact hq1 (by rw [hkeys]; exact List.mem_map.2 ⟨_, (hstay q hst).2, rfl⟩)
            · refine hq2 ?_
              unfold headBy
              simp only
              rw [List.mem_filter]
              refine ⟨hr, ?_⟩
              cases hm : memB lh.rs q
              · rfl
              · exact absurd (memB_iff.1 hm) hst
          obtain ⟨M, k1, k2, k3⟩ := head_over (s := s) (dead := dead) hbind' hgv (fun q hq1 hq2 hl => ⟨rfl, hout q hq1 hq2, fun p hp => hpp p (hbel.varN hp)⟩) (fun t _ _ => ⟨rfl, fun p hp => hpp p (hbel.slotN hp)⟩)
          rw [hh] at k1
          injection k1 with k1
          subst k1
          obtain ⟨H3, m1, m2⟩ := k2.sr p1 k3
          exact ⟨l1, β1, H1, S1, _, β1, H3, S1, p2, p3, m1, m2, k2.fol (n := s.nx) hpp, hbel⟩
  · exact sound_bad

/-- What code comes to is what 'ev' says. -/
theorem ev_sound {K : List Fun} {Hs : List LH} (hK : OpersOk P K) : ∀ (c : Code) (i : Nat) (s : St), (∀ t ∈ wrs c, t < N) → Sound P N c s (ev P K Hs i c s)
  | .skip, i, s, _ => sound_one fun a w Q h => wp_skip h
  | .label _, i, s, _ => sound_one fun a w Q h => wp_label h
  | .region id ops dr, i, s, hd => by
    unfold ev
    have hd2 : ∀ o ∈ ops.toList, ∀ t, o.dst = some t → t < N := fun o ho t ht => hd t (List.mem_filterMap.2 ⟨o, ho, ht⟩)
    clear hd
    refine sound_splits (fun s1 => ?_) _ s
    cases dr with
    | true =>
      simp only [evReg]
      split
      · rename_i g s' T h
        split
        · rename_i hc
          exact sound_draw hK hd2 (and2 hc).1 h (and2 hc).2
        · exact sound_bad
      · exact sound_bad
    | false =>
      simp only [evReg]
      split
      · rename_i g s' h
        exact sound_region hK hd2 h
      · exact sound_bad
  | .seq a b, i, s, hd => by
    unfold ev
    exact sound_seq (B := fun s1 => ev P K Hs (i + nloops a) b s1) (ev_sound hK a i s fun t ht => hd t (List.mem_append_left _ ht)) (fun g s1 _ => ev_sound hK b _ s1 fun t ht => hd t (List.mem_append_right _ ht))
  | .cond c a b, i, s, hd => by
    unfold ev
    split
    · rename_i g v hc
      exact sound_cond (ev_sound hK a i s fun t ht => hd t (List.mem_append_left _ ht)) (ev_sound hK b (i + nloops a) s fun t ht => hd t (List.mem_append_right _ ht)) hc
    · exact sound_bad
  | .block id b, i, s, hd => by
    have h := sound_block (id := id) (ev_sound (Hs := Hs) hK b i s hd)
    unfold blockOut at h
    unfold ev
    generalize ev P K Hs i b s = o at h ⊢
    obtain ⟨ok, ex⟩ := o
    simp only at h ⊢
    cases hX : look ex (exX id) with
    | none => rw [hX] at h; exact h
    | some y =>
      obtain ⟨g, t⟩ := y
      rw [hX] at h
      simp only at h ⊢
      cases hN : look ex exN with
      | none => rw [hN] at h; exact h
      | some x => rw [hN] at h; exact h
  | .loop b, i, s, hd => by
    unfold ev
    exact sound_loop (fun sx => ev_sound hK b (i + 1) sx hd) s
  | .exit id, i, s, _ => sound_one fun a w Q h => wp_exit h
  | .ret, i, s, _ => sound_one fun a w Q h => wp_ret h
  | .goto _, i, s, _ => sound_bad
  | .scope _, i, s, _ => sound_bad
  | .rangeFunc .., i, s, _ => sound_bad
  | .refuse _, i, s, _ => sound_bad

end
end Go.Tm

namespace Go.Tm
open Go.Vm
set_option linter.unusedVariables false
set_option linter.unusedSimpArgs false

theorem core_need (x : T) : x.core = x.need.2 := by cases x <;> rfl

section
variable {N : Nat} {a b M s : St} {loc locM : Loc} {β β' : Nat → Option (Nat × Nat)} {H H' : List Ob} {S S' : Nat → Nat → Prop} {act : Act} {w w' : World} {Wr : Nat → Prop} {own0 : Nat → Prop} {n0 m : Nat} {P : Program}

theorem adaptTs_pos : ∀ (xs ys : List T) (n : Nat) (zs : List T) (fs : List Nat) (ts : List Ty), adaptTs a b xs ys n = some (zs, fs, ts) → (∀ t ∈ ts, 0 < t.size) ∧ zs.length = xs.length
  | [], [], n, zs, fs, ts, h => by
    simp only [adaptTs, Option.some.injEq, Prod.mk.injEq] at h
    obtain ⟨rfl, rfl, rfl⟩ := h
    exact ⟨(fun t ht => nomatch ht), rfl⟩
  | [], _ :: _, n, zs, fs, ts, h => by cases h
  | _ :: _, [], n, zs, fs, ts, h => by cases h
  | x :: xs, y :: ys, n, zs, fs, ts, h => by
    unfold adaptTs at h
    split at h
    · generalize hz : adaptT a b depth x.need.2 y n = r at h
      obtain ⟨z, f, t⟩ := r
      simp only at h
      split at h
      · rename_i zs' fs' ts' h'
        simp only [Option.some.injEq, Prod.mk.injEq] at h
        obtain ⟨rfl, rfl, rfl⟩ := h
        obtain ⟨k1, k2⟩ := adaptTs_pos xs ys _ zs' fs' ts' h'
        refine ⟨fun t' ht => ?_, by simp [k2]⟩
        rcases List.mem_append.1 ht with ht | ht
        · exact adaptT_pos _ _ _ _ _ _ _ hz t' ht
        · exact k1 t' ht
      · cases h
    · cases h

/-- Values that were adapted say what the values said. -/
theorem adaptTs_sound (hM : Adapts a loc M locM β H S w Wr own0 n0 m) : ∀ (xs ys : List T) (n : Nat) (zs : List T) (fs : List Nat) (ts : List Ty), adaptTs a b xs ys n = some (zs, fs, ts) → (∀ x ∈ xs, ∀ q ∈ x.names, q < m) → m ≤ n →
    (∀ i t, ts[i]? = some t → M.root (n + i) = ⟨.tt, .arr t lNil false⟩) → (∀ r ∈ fs, ∀ g t L fz, a.root r = ⟨g, .arr t L fz⟩ → g.val = true → Lent β H S (loc r).1) →
    ∀ (i : Nat) (x z : T), xs[i]? = some x → zs[i]? = some z → (∀ u, RelD β H S w (encD a loc x) u → RelD β H S w (encD M locM z) u) ∧ ∀ q ∈ z.names, q < n + ts.length
  | [], [], n, zs, fs, ts, h, hn, hmn, hN, hF, i, x, z, hx, hz => by simp at hx
  | [], _ :: _, n, zs, fs, ts, h, hn, hmn, hN, hF, i, x, z, hx, hz => by cases h
  | _ :: _, [], n, zs, fs, ts, h, hn, hmn, hN, hF, i, x, z, hx, hz => by cases h
  | x0 :: xs, y :: ys, n, zs, fs, ts, h, hn, hmn, hN, hF, i, x, z, hx, hz => by
    unfold adaptTs at h
    split at h
    · rename_i hsol
      generalize hz0 : adaptT a b depth x0.need.2 y n = r at h
      obtain ⟨z0, f, t⟩ := r
      simp only at h
      split at h
      · rename_i zs' fs' ts' h'
        simp only [Option.some.injEq, Prod.mk.injEq] at h
        obtain ⟨rfl, rfl, rfl⟩ := h
        cases i with
        | zero =>
          simp only [List.getElem?_cons_zero, Option.some.injEq] at hx hz
          subst hx; subst hz
          have hcn : ∀ q ∈ x0.need.2.names, q < m := fun q hq => hn x0 (.head _) q (need_names q hq)
          obtain ⟨k1, k2, k3, k4⟩ := adaptT_solid hM depth _ y n z0 f t hz0 hsol hcn (fun i t' hi => hN i t' (by rw [List.getElem?_append_left (List.getElem?_eq_some_iff.1 hi).1]; exact hi)) (fun r hr => hF r (List.mem_append_left _ hr))
          refine ⟨fun u hu => ?_, fun q hq => ?_⟩
          · revert hu
            cases x0 with
            | may g x' =>
              simp only [T.again, encD]
              cases g with
              | true => exact fun hu => relD_conv hsol k1 k2 k3 k4 hu
              | false => exact fun hu => hu
            | _ => exact fun hu => relD_conv hsol k1 k2 k3 k4 hu
          · have hq' : q ∈ z0.names := by cases x0 <;> exact hq
            have := adaptT_names (m := n + t.length) depth _ y n z0 f t hz0 (Nat.le_refl _) (fun q hq => by have := hcn q hq; omega) q hq'
            rw [List.length_append]; omega
        | succ i =>
          simp only [List.getElem?_cons_succ] at hx hz
          obtain ⟨k1, k2⟩ := adaptTs_sound hM xs ys (n + t.length) zs' fs' ts' h' (fun x hx => hn x (.tail _ hx)) (by omega) (fun i t' hi => by
            have := hN (t.length + i) t' (by rw [List.getElem?_append_right (by omega), Nat.add_sub_cancel_left]; exact hi)
            rw [← Nat.add_assoc] at this; exact this) (fun r hr => hF r (List.mem_append_right _ hr)) i x z hx hz
          exact ⟨k1, fun q hq => by have := k2 q hq; rw [List.length_append]; omega⟩
      · cases h
    · cases h

theorem resultT_sound (hs : SR N s loc β H S act w Wr own0 n0) {rv : ResultVar} {g : G} {x : T} (h : resultT P s rv = some (g, x)) (hg : g.val = true) :
    ∃ u, (match rv with | ResultVar.tmp t => pure (act.tmps.getD t undef) | .cell p t => do loadVar t (← asAddr (act.tmps.getD p undef)) : Sem Value).run P w = .ok u w ∧ RelD β H S w (encD s loc x) u ∧ ∀ q ∈ x.names, ∃ t, q ∈ (s.slot t).names ∨ ∃ r, q ∈ (s.root r).rt.names := by
  cases rv with
  | tmp t =>
    have h' : (s.slot t).need = (g, x) := by
      unfold resultT at h
      simp only at h
      split at h
      · cases h
      · injection h
    have hu := need_rel h' hg (hs.slots t)
    exact ⟨act.tmps.getD t undef, rfl, hu, fun q hq => ⟨t, .inl (need_names q (by rw [h']; exact hq))⟩⟩
  | cell t ty =>
    unfold resultT at h
    simp only at h
    split at h
    · rename_i g1 r hx
      split at h
      · rename_i g2 ty' y hr
        split at h
        · rename_i hsz
          simp only [Option.some.injEq, Prod.mk.injEq] at h
          obtain ⟨rfl, rfl⟩ := h
          rw [G.and_val] at hg
          obtain ⟨hg1, hg2⟩ := and2 hg
          have hlive : (s.root r).live = true := by rw [hr, live_iff]; exact ⟨hg2, rfl⟩
          have hp := need_rel hx hg1 (hs.slots t)
          rw [encD_ptr hlive] at hp
          have hp : RelC β H S w (.ptr (loc r).1 (loc r).2 (poff [])) (act.tmps.getD t undef) := hp
          have ha := hs.heap.at_ r (by rw [hr]; exact hg2)
          rw [hr] at ha
          obtain ⟨a1, a2, cs, a3, a4⟩ := ha
          simp only [RelC] at hp
          obtain ⟨_, hlt, hs2⟩ := hp
          obtain ⟨_, hs2⟩ := hs2 1 0 cs false a3
          obtain ⟨b, oo, hb, hu⟩ := hs2 a1
          obtain ⟨_, h'⟩ := hs.heap.heap.cells _ _ _ _ _ a3
          rcases h' with h' | ⟨b', o', arr, e, k1, k2, k3, k4, k5, k6⟩
          · rw [h'.1] at hb; cases hb
          rw [hb] at k1
          simp only [Option.some.injEq, Prod.mk.injEq] at k1
          obtain ⟨rfl, rfl⟩ := k1
          have hl : Lies β H S w cs b oo := k5
          obtain ⟨n, ht, hn, h1⟩ := sizeIs_at hsz
          have hlen : cs.length = n := by rw [a4.length, encC_len s loc y a2, hn]
          obtain ⟨v, hv⟩ := wrapV_some (agg := y.isRow) (cs := cs) (by rcases h1 with h1 | h1; exact .inl h1; exact .inr (by rw [hlen, ← hn, h1]))
          obtain ⟨u, e1, e2⟩ := run_loadVar_lies ht hl hlen hv
          refine ⟨u, ?_, relD_cells (w := w) a2 rfl h1 hv a4 e2, fun q hq => ⟨t, .inr ⟨r, by rw [hr]; exact hq⟩⟩⟩
          simp only
          rw [hu]
          simp [asAddr, poff, e1]
        · cases h
      · cases h
    · cases h

theorem resultTs_sound (hs : SR N s loc β H S act w Wr own0 n0) : ∀ (rvs : List ResultVar) (g : G) (xs : List T), resultTs P s rvs = some (g, xs) → g.val = true →
    ∃ us, (rvs.mapM fun | ResultVar.tmp t => pure (act.tmps.getD t undef) | .cell p t => do loadVar t (← asAddr (act.tmps.getD p undef)) : Sem (List Value)).run P w = .ok us w ∧ us.length = xs.length ∧
      (∀ (i : Nat) x u, xs[i]? = some x → us[i]? = some u → RelD β H S w (encD s loc x) u) ∧ ∀ x ∈ xs, ∀ q ∈ x.names, ∃ t, q ∈ (s.slot t).names ∨ ∃ r, q ∈ (s.root r).rt.names
  | [], g, xs, h, hg => by
    simp only [resultTs, Option.some.injEq, Prod.mk.injEq] at h
    obtain ⟨_, rfl⟩ := h
    exact ⟨[], rfl, rfl, fun i x u hx => by simp at hx, fun x hx => by cases hx⟩
  | r :: rs, g, xs, h, hg => by
    unfold resultTs at h
    split at h
    · rename_i g1 x g2 xs1 h1 h2
      simp only [Option.some.injEq, Prod.mk.injEq] at h
      obtain ⟨rfl, rfl⟩ := h
      rw [G.and_val] at hg
      obtain ⟨hg1, hg2⟩ := and2 hg
      obtain ⟨u, e1, e2, e3⟩ := resultT_sound (P := P) hs h1 hg1
      obtain ⟨us, f1, f2, f3, f4⟩ := resultTs_sound hs rs g2 xs1 h2 hg2
      refine ⟨u :: us, ?_, by simp [f2], fun i y v hy hv => ?_, fun y hy => ?_⟩
      · rw [List.mapM_cons, Sem.run_bind]
        refine (congrArg (fun r => Result.andThen r _) e1).trans ?_
        simp only [Result.andThen_ok]
        rw [Sem.run_bind]
        refine (congrArg (fun r => Result.andThen r _) f1).trans ?_
        rfl
      · cases i with
        | zero => simp at hy hv; subst hy; subst hv; exact e2
        | succ i => exact f3 i y v (by simpa using hy) (by simpa using hv)
      · cases hy with
        | head => exact e3
        | tail _ hy => exact f4 y hy
    · cases h

theorem run_results {fn : Func} {us : List Value} (g1 : (fn.results.toList.mapM fun | ResultVar.tmp t => pure (act.tmps.getD t undef) | .cell p t => do loadVar t (← asAddr (act.tmps.getD p undef)) : Sem (List Value)).run P w = .ok us w) :
    (results fn act.tmps).run P w = .ok (if us.length = 1 then us.headD undef else .tuple us.toArray) w := by
  unfold results
  rw [Array.mapM_eq_mapM_toList]
  simp only [Sem.run_bind, Sem.run_map]
  refine (congrArg (fun r => Result.andThen (Result.andThen r _) _) g1).trans ?_
  simp only [Result.andThen_ok, Sem.run_pure]
  congr 1
  match us with
  | [] => simp
  | [u] => simp
  | u :: v :: us => simp

theorem ofList_toList : ∀ l : List T, (T.ofList l).toList = l
  | [] => rfl
  | x :: l => by simp only [T.ofList, T.toList, ofList_toList l]

theorem asRes_rel {xs : List T} {us : List Value} (hl : us.length = xs.length) (h : ∀ (i : Nat) x u, xs[i]? = some x → us[i]? = some u → RelD β H S w (encD s loc x) u) (hok : ∀ x ∈ xs, x.solid = true ∧ (x.isRow || Nat.beq x.size 1) = true) :
    RelD β H S w (encD s loc (asRes xs)) (if us.length = 1 then us.headD undef else .tuple us.toArray) := by
  have hv : ∀ (xs : List T) (us : List Value), us.length = xs.length → (∀ (i : Nat) x u, xs[i]? = some x → us[i]? = some u → RelD β H S w (encD s loc x) u) → (∀ x ∈ xs, x.solid = true ∧ (x.isRow || Nat.beq x.size 1) = true) → RelVs β H S w (xs.map (encV s loc)) us := by
    intro xs
    induction xs with
    | nil => intro us hl _ _; have := List.eq_nil_of_length_eq_zero hl; subst this; rfl
    | cons x xs ih =>
      intro us hl h hok
      match us, hl with
      | u :: us, hl =>
        have hx := h 0 x u rfl rfl
        rw [encD_v (hok x (.head _)).1 (hok x (.head _)).2] at hx
        exact ⟨u, us, rfl, hx, ih us (by simpa using hl) (fun i y v hy hv => h (i + 1) y v (by simpa using hy) (by simpa using hv)) (fun y hy => hok y (.tail _ hy))⟩
  match xs, us, hl with
  | [x], [u], _ => exact h 0 x u rfl rfl
  | [], [], _ => exact ⟨#[], rfl, rfl⟩
  | x :: y :: xs, u :: v :: us, hl =>
    have := hv (x :: y :: xs) (u :: v :: us) hl h hok
    rw [if_neg (by simp)]
    show RelD β H S w (.tup (((T.ofList (x :: y :: xs)).toList).map (encV s loc))) _
    rw [ofList_toList]
    exact ⟨_, rfl, by simpa using this⟩

end
end Go.Tm

namespace Go.Tm
open Go.Vm
set_option linter.unusedVariables false
set_option linter.unusedSimpArgs false

/-- What is kept behind a function, by its own names. -/
def endSt (e : Ent) (s0 : St) (hs : List (Nat × Rt)) : St := ⟨[], kept hs ++ e.ro.map (fun k => (k, s0.root k)), 0⟩

/-- A function does what its entry says. -/
structure FunOk (P : Program) (F : Fun) : Prop where
  call : ∀ (vals : Array Value) (w : World), (callFunc F.e.f vals).run P w = .ok (.enter F.e.f vals) w
  runs : ∀ (x : HL F.e.ins) (s0 : St) (res : List T) (l1 : List Leaf) (hs : List (Nat × Rt)), startSt F.e (HL.leaves F.e.ins x) = some s0 → (F.fn x).1 = true →
    plugTs F.e.aout (HL.leaves F.e.outs (F.fn x).2) = some (res, l1) → plugRs F.e.hout l1 = some (hs, []) →
    entOk F.e = true ∧ ∀ loc β H S w Wr own0 n0 (vals : Array Value), Heap s0 loc β H S w Wr own0 n0 → vals.size = F.e.ain.length → (∀ t, t < F.e.ain.length → RelD β H S w (encD s0 loc (s0.slot t)) (vals.getD t undef)) →
      Calls P F.e.f vals w fun e w' => ∃ v loc' β' H' S', e = .returned v ∧ Heap (endSt F.e s0 hs) loc' β' H' S' w' Wr own0 n0 ∧ RelD β' H' S' w' (encD (endSt F.e s0 hs) loc' (asRes res)) v ∧ Gone Wr own0 n0 β H S w β' H' S' w' ∧
        Fol s0 loc (endSt F.e s0 hs) loc' F.e.hin.length

section
variable {N : Nat} {a b M s : St} {loc locM : Loc} {β β' : Nat → Option (Nat × Nat)} {H H' : List Ob} {S S' : Nat → Nat → Prop} {act : Act} {w w' : World} {Wr : Nat → Prop} {own0 : Nat → Prop} {n0 m : Nat} {P : Program}

theorem plugTs_length : ∀ {xs ys : List T} {l l' : List Leaf}, plugTs xs l = some (ys, l') → ys.length = xs.length
  | [], ys, l, l', h => by
    simp only [plugTs, Option.some.injEq, Prod.mk.injEq] at h
    rw [← h.1]
  | x :: xs, ys, l, l', h => by
    unfold plugTs at h
    split at h
    · split at h
      · rename_i ys' l2 hp
        simp only [Option.some.injEq, Prod.mk.injEq] at h
        obtain ⟨rfl, _⟩ := h
        simp [plugTs_length hp]
      · cases h
    · cases h

theorem range_zip_look : ∀ (ts : List T) (k t : Nat), look ((List.range' k ts.length).zip ts) t = if k ≤ t then ts[t - k]? else none
  | [], k, t => by simp [look]
  | x :: ts, k, t => by
    rw [List.length_cons, List.range'_succ, List.zip_cons_cons, look_cons, range_zip_look ts (k + 1) t]
    by_cases h1 : k = t
    · subst h1; simp
    · rw [if_neg h1]
      by_cases h2 : k + 1 ≤ t
      · rw [if_pos h2, if_pos (by omega), show t - k = (t - (k + 1)) + 1 by omega]; rfl
      · rw [if_neg h2, if_neg (by omega)]

/-- What a start says. -/
theorem startSt_some {e : Ent} {l : List Leaf} {s0 : St} (h : startSt e l = some s0) : ∃ ts l1 rs, plugTs e.ain l = some (ts, l1) ∧ plugRs e.hin l1 = some (rs, []) ∧ s0.nx = e.hin.length ∧ (∀ t, s0.slot t = (ts[t]?).getD .undef) ∧ s0.hp = kept rs ∧ (∀ q, s0.root q = match look rs q with | some rt => ⟨.tt, rt⟩ | none => ⟨.ff, .gone⟩) := by
  unfold startSt at h
  split at h
  · rename_i ts l1 hts
    split at h
    · rename_i rs hrs
      injection h with h
      subst h
      refine ⟨ts, l1, rs, hts, hrs, rfl, fun t => ?_, rfl, fun q => ?_⟩
      · show (look ((List.range ts.length).zip ts) t).getD .undef = _
        rw [List.range_eq_range', range_zip_look]
        simp
      · show (look (kept rs) q).getD ⟨.ff, .gone⟩ = _
        rw [look_kept]
        cases look rs q <;> rfl
    · cases h
  · cases h

theorem empty_below : Below ⟨[], [], 0⟩ 0 := fun hi => ⟨(fun t r hr => nomatch hr), (fun r h1 h2 => rfl), (fun r ty x hx => nomatch hx)⟩

theorem start_below {s0 : St} (h : newBelow ⟨[], [], 0⟩ s0 = true) : Below s0 s0.nx := below_check empty_below ⟨⟨s0.sl, by simp⟩, ⟨s0.hp, by simp⟩⟩ (Nat.zero_le _) h

/-- Where a function ends. -/
theorem end_sound {s0 s : St} {o : Out} {g : G} {c : Code} (hS : Sound P N c s0 o) (h : endOf s0 o = some (g, s)) (hg : g.val = true) (hb : Below s0 s0.nx) (hs : SR N s0 loc β H S act w Wr own0 n0) {Q : Exit → Act → World → Prop}
    (hQ : ∀ e, e = .normal ∨ e = .ret → ∀ β' H' S' loc' a' w', SR N s loc' β' H' S' a' w' Wr own0 n0 → Gone Wr own0 n0 β H S w β' H' S' w' → Fol s0 loc s loc' s0.nx → Grows s0 s → s0.nx ≤ s.nx → Below s s.nx → Q e a' w') : c.wp P Q act w := by
  unfold endOf at h
  by_cases hall : (o.ex.all fun x => Nat.beq x.1 exN || Nat.beq x.1 exR) = true
  · rw [if_pos hall, if_pos hall] at h
    have hkey : ∀ k x, look o.ex k = some x → k = exN ∨ k = exR := fun k x hk => by
      have := List.all_eq_true.1 hall _ (look_mem _ _ _ hk)
      rw [Bool.or_eq_true] at this
      rcases this with h1 | h1
      · exact .inl (beq2 h1)
      · exact .inr (beq2 h1)
    have hexit : ∀ k, k = exN ∨ k = exR → exitOf k = .normal ∨ exitOf k = .ret := fun k hk => by
      rcases hk with rfl | rfl
      · exact .inl rfl
      · exact .inr rfl
    cases hN : look o.ex exN with
    | none =>
      cases hR : look o.ex exR with
      | none => rw [hN, hR] at h; cases h
      | some y =>
        rw [hN, hR] at h
        simp only [Option.some.injEq, Prod.mk.injEq] at h
        obtain ⟨rfl, rfl⟩ := h
        refine hS.runs hg loc β H S act w Wr own0 n0 Q hb hs fun k g' s' hk hgv ho β' H' S' loc' a' w' hs' hgo hf hbl => ?_
        rcases hkey k _ hk with rfl | rfl
        · rw [hN] at hk; cases hk
        · rw [hR] at hk
          injection hk with hk
          subst hk
          exact hQ _ (.inr rfl) β' H' S' loc' a' w' hs' hgo hf (hS.grows _ _ _ hR).1 (hS.grows _ _ _ hR).2 hbl
    | some x =>
      cases hR : look o.ex exR with
      | none =>
        rw [hN, hR] at h
        simp only [Option.some.injEq, Prod.mk.injEq] at h
        obtain ⟨rfl, rfl⟩ := h
        refine hS.runs hg loc β H S act w Wr own0 n0 Q hb hs fun k g' s' hk hgv ho β' H' S' loc' a' w' hs' hgo hf hbl => ?_
        rcases hkey k _ hk with rfl | rfl
        · rw [hN] at hk
          injection hk with hk
          subst hk
          exact hQ _ (.inl rfl) β' H' S' loc' a' w' hs' hgo hf (hS.grows _ _ _ hN).1 (hS.grows _ _ _ hN).2 hbl
        · rw [hR] at hk; cases hk
      | some y =>
        obtain ⟨gn, sn⟩ := x
        obtain ⟨gr, sr⟩ := y
        rw [hN, hR] at h
        simp only at h
        unfold endChk at h
        split at h
        rotate_left
        · cases h
        rename_i hchk
        obtain ⟨hchk1, hchk2⟩ := and2 hchk
        have hchk1 := Nat.le_of_ble_eq_true hchk1
        simp only [Option.some.injEq, Prod.mk.injEq] at h
        obtain ⟨rfl, rfl⟩ := h
        have hbm := below_check hb (mergeSt_grows gn.val s0 sn sr) hchk1 hchk2
        have hgn := hS.grows _ _ _ hN
        have hgr := hS.grows _ _ _ hR
        refine hS.runs hg loc β H S act w Wr own0 n0 Q hb hs fun k g' s' hk hgv ho β' H' S' loc' a' w' hs' hgo hf hbl => ?_
        rcases hkey k _ hk with rfl | rfl
        · rw [hN] at hk
          simp only [Option.some.injEq, Prod.mk.injEq] at hk
          obtain ⟨rfl, rfl⟩ := hk
          obtain ⟨l2, β2, H2, S2, k1, k2, k3⟩ := merge_go (c := gn.val) (a0 := sn) (b0 := sr) (X := sn) (by rw [hgv]; rfl) hgn.1 hgr.1 hs' hbl hgo hf hgn.2
          exact hQ _ (.inl rfl) β2 H2 S2 l2 a' w' k1 k2 k3 (mergeSt_grows _ _ _ _) hchk1 hbm
        · rw [hR] at hk
          simp only [Option.some.injEq, Prod.mk.injEq] at hk
          obtain ⟨rfl, rfl⟩ := hk
          have hnf : gn.val = false := by rw [← at_some hN]; exact ho exN (by decide)
          obtain ⟨l2, β2, H2, S2, k1, k2, k3⟩ := merge_go (c := gn.val) (a0 := sn) (b0 := sr) (X := sr) (by rw [hnf]; rfl) hgn.1 hgr.1 hs' hbl hgo hf hgr.2
          exact hQ _ (.inr rfl) β2 H2 S2 l2 a' w' k1 k2 k3 (mergeSt_grows _ _ _ _) hchk1 hbm
  · rw [if_neg hall, if_neg hall] at h; cases h

end
end Go.Tm

namespace Go.Tm
open Go.Vm
set_option linter.unusedVariables false
set_option linter.unusedSimpArgs false

theorem keyIn_iff {l : List (Nat × Rt)} {k : Nat} : keyIn l k = true ↔ k ∈ l.map (·.1) := by
  unfold keyIn
  rw [List.any_eq_true, List.mem_map]
  constructor
  · rintro ⟨x, h1, h2⟩; exact ⟨x, h1, beq2 h2⟩
  · rintro ⟨x, h1, rfl⟩; exact ⟨x, h1, Nat.beq_refl _⟩

theorem stays_mem {e : Ent} {k : Nat} (h1 : k ∈ e.hin.map (·.1)) (h2 : k ∈ e.hout.map (·.1)) : (k, k) ∈ stays e := by
  unfold stays
  obtain ⟨x, hx, rfl⟩ := List.mem_map.1 h1
  exact List.mem_map.2 ⟨x, List.mem_filter.2 ⟨hx, keyIn_iff.2 h2⟩, rfl⟩

/-- What the end of a function is checked for. -/
structure Fin (e : Ent) (s0 M : St) (zs : List T) (ps : List (Nat × Nat)) : Prop where
  vals : ∀ z ∈ zs, okRes z = true
  starts : ∀ q, ∀ p ∈ (s0.root q).rt.names, p ∈ e.hin.map (·.1)
  ent : entOk e = true
  ro : ∀ k ∈ e.ro, (∀ x ∈ fresh M.hp s0.hp.length, x.1 ≠ k) ∧ k ∉ ps.map (·.2) ∧ k ∉ e.hout.map (·.1)
  outs : ∀ k ∈ e.hout.map (·.1), e.hin.length ≤ k ∨ k ∈ e.hin.map (·.1)
  stay : ∀ k, k ∈ e.hin.map (·.1) → k ∈ e.hout.map (·.1) → (k, k) ∈ ps

theorem finishPs_some {e : Ent} {s0 M : St} {zs : List T} {ps : List (Nat × Nat)} {g : G} {v : HL e.outs} (h : finishPs e s0 M zs ps = some (g, v)) : Fin e s0 M zs ps ∧ ∃ lv, bindTo M ps e.aout zs e.hout = some (g, lv) ∧ HL.of e.outs lv = some v := by
  unfold finishPs at h
  split at h
  · rename_i hc
    obtain ⟨c1, hc⟩ := and2 hc
    obtain ⟨c2, hc⟩ := and2 hc
    obtain ⟨c3, hc⟩ := and2 hc
    obtain ⟨c4, hc⟩ := and2 hc
    obtain ⟨c5, c6⟩ := and2 hc
    have hn : ∀ (l : List Nat) (q : Nat), (!memB l q) = true → q ∉ l := fun l q h hm => by rw [memB_iff.2 hm] at h; cases h
    have hent := c3
    unfold entOk at hent
    obtain ⟨e1, e2⟩ := and2 hent
    obtain ⟨e2, e3⟩ := and2 e2
    split at h
    · rename_i g' lv hb
      split at h
      · rename_i v' hv
        simp only [Option.some.injEq, Prod.mk.injEq] at h
        obtain ⟨rfl, rfl⟩ := h
        refine ⟨⟨fun z hz => List.all_eq_true.1 c1 z hz, fun q p hp => ?_, c3, fun k hk => ⟨fun x hx he => ?_, fun hm => ?_, fun hm => ?_⟩, fun k hk => ?_, fun k h1 h2 => ?_⟩, lv, hb, hv⟩
        · unfold St.root at hp
          cases hl : look s0.hp q with
          | none => rw [hl] at hp; cases hp
          | some x =>
            rw [hl] at hp
            exact keyIn_iff.1 (List.all_eq_true.1 (List.all_eq_true.1 c2 _ (look_mem _ _ _ hl)) p hp)
        · exact hn _ _ (List.all_eq_true.1 c4 x hx) (he ▸ hk)
        · exact hn _ _ (List.all_eq_true.1 c5 k hm) hk
        · have := (and2 (List.all_eq_true.1 e3 k hk)).1
          rw [keyIn_iff.2 hm] at this; cases this
        · obtain ⟨x, hx, rfl⟩ := List.mem_map.1 hk
          have := List.all_eq_true.1 e2 x hx
          rw [Bool.or_eq_true] at this
          rcases this with h1 | h1
          · exact .inl (Nat.le_of_ble_eq_true h1)
          · exact .inr (keyIn_iff.1 h1)
        · have := List.all_eq_true.1 c6 _ (stays_mem h1 h2)
          obtain ⟨⟨p1, p2⟩, h3, h4⟩ := List.any_eq_true.1 this
          obtain ⟨h5, h6⟩ := and2 h4
          have h5 := beq2 h5
          have h6 := beq2 h6
          simp only at h5 h6
          subst h5; subst h6
          exact h3
      · cases h
    · cases h
  · cases h

theorem look_ro {l : List Nat} {s0 : St} {q : Nat} : look (l.map fun k => (k, s0.root k)) q = if q ∈ l then some (s0.root q) else none := look_self (f := fun k => s0.root k)

theorem endSt_root (e : Ent) (s0 : St) (hs : List (Nat × Rt)) (q : Nat) : (endSt e s0 hs).root q = match look hs q with | some rt => ⟨.tt, rt⟩ | none => if q ∈ e.ro then s0.root q else ⟨.ff, .gone⟩ := by
  show (look (kept hs ++ e.ro.map fun k => (k, s0.root k)) q).getD ⟨.ff, .gone⟩ = _
  rw [look_append, look_kept]
  cases look hs q with
  | some rt => rfl
  | none =>
    simp only [Option.map_none]
    rw [look_ro]
    split <;> rfl

/-- What is kept behind a function, out of its last state. -/
theorem fin_over {e : Ent} {s0 M : St} {zs : List T} {ps : List (Nat × Nat)} {g : G} {lv : List Leaf} (hf : Fin e s0 M zs ps) (hgr : Grows s0 M) (hb : bindTo M ps e.aout zs e.hout = some (g, lv)) (hg : g.val = true) {res : List T} {l1 : List Leaf} {hs : List (Nat × Rt)}
    (h1 : plugTs e.aout lv = some (res, l1)) (h2 : plugRs e.hout l1 = some (hs, [])) : Over ps M (endSt e s0 hs) ∧ res = zs.map (fun x => renT (renBy ps) x.need.2) ∧ (∀ z ∈ zs, z.need.1.val = true ∧ ∀ q ∈ z.need.2.names, q ∈ ps.map (·.2)) ∧ (∀ k, k ∈ e.hout.map (·.1) ↔ k ∈ ps.map (·.1)) := by
  obtain ⟨b1, b2, b3, b4, b5, l2, hr', k1, k2, k3, k4⟩ := bind_some hb hg
  rw [k1] at h1
  simp only [Option.some.injEq, Prod.mk.injEq] at h1
  obtain ⟨rfl, rfl⟩ := h1
  rw [k2] at h2
  simp only [Option.some.injEq, Prod.mk.injEq] at h2
  obtain ⟨rfl, _⟩ := h2
  refine ⟨⟨b1, fun k r hm hl => ?_, fun q hq hl => ?_⟩, rfl, b5, b3⟩
  · rw [endSt_root]
    have hk : k ∈ hr'.map (·.1) := by rw [k3, b3]; exact List.mem_map.2 ⟨_, hm, rfl⟩
    obtain ⟨rt, hrt⟩ := look_keys.1 hk
    rw [hrt]
    obtain ⟨r', m1, m2, m3⟩ := k4 k rt hrt
    have : r' = r := by rw [← b1.src m1, ← b1.src hm]
    subst this
    exact ⟨m2, m3⟩
  · rw [endSt_root] at hl ⊢
    have hn : look hr' q = none := by
      cases hlk : look hr' q with
      | none => rfl
      | some rt => exact absurd (by rw [← b3, ← k3]; exact look_key hlk) hq
    rw [hn] at hl ⊢
    simp only at hl ⊢
    by_cases hro : q ∈ e.ro
    · rw [if_pos hro] at hl ⊢
      obtain ⟨r1, r2, r3⟩ := hf.ro q hro
      have hM : M.root q = s0.root q := hgr.root r1
      refine ⟨hM.symm, r2, fun p hp hk => ?_⟩
      rw [hM] at hp
      exact hf.stay p (hf.starts q p hp) ((b3 p).2 hk)
    · rw [if_neg hro] at hl; cases hl

section
variable {N : Nat} {P : Program}

/-- A function does what its code comes to. -/
theorem fun_ok {F : Fun} {fn : Func} {c : Code} {K : List Fun} {Hs : List LH} (hK : OpersOk P K) (hcall : ∀ (vals : Array Value) (w : World), (callFunc F.e.f vals).run P w = .ok (.enter F.e.f vals) w) (hf : P.funcs[F.e.f]? = some fn) (hbody : fn.body = some c)
    (hF : ∀ x, (F.fn x).1 = true → F.fn x = evFun P K Hs fn c F.e x) : FunOk P F where
  call := hcall
  runs := fun x s0 res l1 hs hst hok hres hhs => by
    have he := hF x hok
    unfold evFun at he
    rw [hst] at he
    simp only at he
    split at he
    · rename_i g s hend
      split at hend
      · rename_i hchk
        obtain ⟨hchk1, hchk2⟩ := and2 hchk
        split at he
        · rename_i g' r hfin
          have hgg : (G.and g g').val = true := by rw [← hok, he]
          rw [G.and_val] at hgg
          obtain ⟨hg, hg'⟩ := and2 hgg
          unfold finish at hfin
          split at hfin
          · rename_i gr xs hxs
            split at hfin
            · rename_i zs fs ts hzs
              split at hfin
              · rename_i g2 v hv
                simp only [Option.some.injEq, Prod.mk.injEq] at hfin
                obtain ⟨rfl, rfl⟩ := hfin
                rw [G.and_val] at hg'
                obtain ⟨hgr, hg2⟩ := and2 hg'
                have hbz := adaptRoots_grows ⟨[], kept F.e.hout, 0⟩ ((stays F.e).map (·.1)) (addNils (frzs s fs) s.nx ts) (s.nx + ts.length)
                have hbs := fun {N : Nat} {loc : Loc} {β : Nat → Option (Nat × Nat)} {H : List Ob} {S : Nat → Nat → Prop} {act : Act} {w : World} {Wr : Nat → Prop} {own0 : Nat → Prop} {n0 : Nat} (hs : SR N (addNils (frzs s fs) s.nx ts) loc β H S act w Wr own0 n0) (hb : Below (addNils (frzs s fs) s.nx ts) (s.nx + ts.length)) =>
                  adaptRoots_sound (b := ⟨[], kept F.e.hout, 0⟩) ((stays F.e).map (·.1)) hs hb
                generalize adaptRoots ⟨[], kept F.e.hout, 0⟩ ((stays F.e).map (·.1)) (addNils (frzs s fs) s.nx ts) (s.nx + ts.length) = z at hv hbz hbs
                obtain ⟨M, nM⟩ := z
                unfold finishAt at hv
                simp only at hv hbz hbs
                generalize closePs F.e.hout M depth (nubP (stays F.e ++ (F.e.aout.zip zs).flatMap fun x => x.1.zipNames x.2.need.2)) = ps at hv
                obtain ⟨fin, lv, hbind, hlv⟩ := finishPs_some hv
                have hleaf := HL.of_leaves _ _ _ hlv
                have hres' : plugTs F.e.aout lv = some (res, l1) := by rw [← hleaf, ← hres, he]
                refine ⟨fin.ent, fun loc β H S w Wr own0 n0 vals hheap hsz hslots => ?_⟩
                obtain ⟨ts0, l0, rs0, t1, t2, t3, t4, t5, t6⟩ := startSt_some hst
                have hlen := plugTs_length t1
                refine calls_of_wp hf hbody ?_
                have hsr : SR (vals ++ Array.replicate (fn.ntmps - vals.size) undef).size s0 loc β H S { tmps := vals ++ Array.replicate (fn.ntmps - vals.size) undef, defers := [] } w Wr own0 n0 := by
                  refine ⟨fun t => ?_, hheap, rfl, rfl⟩
                  by_cases ht : t < F.e.ain.length
                  · have := hslots t ht
                    have he : (vals ++ Array.replicate (fn.ntmps - vals.size) undef).getD t undef = vals.getD t undef := by
                      rw [Array.getD_eq_getD_getElem?, Array.getD_eq_getD_getElem?, Array.getElem?_append_left (by omega)]
                    rw [he]; exact this
                  · have : s0.slot t = .undef := by rw [t4, List.getElem?_eq_none (by omega)]; rfl
                    rw [this]; trivial
                have hb0 := start_below hchk1
                have hN : ∀ t ∈ wrs c, t < (vals ++ Array.replicate (fn.ntmps - vals.size) undef).size := fun t ht => by
                  have := Nat.le_of_ble_eq_true (List.all_eq_true.1 hchk2 t ht)
                  rw [Array.size_append, Array.size_replicate]; omega
                refine end_sound (ev_sound hK c 0 s0 hN) hend hg hb0 hsr fun e hee β' H' S' loc' a' w' hs' hgo hfol hgrow hnx hbl => ?_
                obtain ⟨us, u1, u2, u3, u4⟩ := resultTs_sound (P := P) hs' _ gr xs hxs hgr
                obtain ⟨hpos, hzlen⟩ := adaptTs_pos _ _ _ _ _ _ hzs
                obtain ⟨locM, βM, HM, SM, m1, m2, m3, m4⟩ := adapt_env hs'.heap hbl fs ts hpos
                have hxn : ∀ x ∈ xs, ∀ q ∈ x.names, q < s.nx := fun x hx q hq => by
                  obtain ⟨t, h | ⟨r, h⟩⟩ := u4 x hx q hq
                  · exact hbl.slotN h
                  · exact hbl.varN h
                have hzrel := adaptTs_sound m1 xs F.e.aout s.nx zs fs ts hzs hxn (Nat.le_refl _) (fun i t hi => addNils_new ts _ s.nx i t hi) m4
                obtain ⟨hi1, hfo1⟩ := m1.fol.follow
                have hsr1 : SR (vals ++ Array.replicate (fn.ntmps - vals.size) undef).size (addNils (frzs s fs) s.nx ts) locM βM HM SM a' w' Wr own0 n0 :=
                  ⟨fun t => by
                    have hslot : (addNils (frzs s fs) s.nx ts).slot t = s.slot t := by rw [addNils_slot, frzs_eq, addUp_slot]
                    rw [hslot]
                    exact Gone.rel m2 hfo1 (fun q hq hk => by have := hbl.slotN hq; omega) (hs'.slots t), m1.heap, hs'.defers, hs'.size⟩
                obtain ⟨_, loc2, β2, H2, S2, p1, p2, p3, p4⟩ := hbs hsr1 m3
                have hgrM : Grows s0 M := by
                  have g1 : Grows s (addNils (frzs s fs) s.nx ts) := (frzs_grows s fs).trans (addNils_grows ts _ s.nx)
                  exact (hgrow.trans g1).trans hbz.1
                obtain ⟨o1, o2, o3, o4⟩ := fin_over fin hgrM hbind hg2 hres' hhs
                obtain ⟨H3, q1, q2⟩ := o1.heap p1.heap
                obtain ⟨hi2, hfo2⟩ := p3.follow
                have hval : RelD β2 H3 S2 w' (encD (endSt F.e s0 hs) (fun q => loc2 (srcBy ps q)) (asRes res)) (if us.length = 1 then us.headD undef else .tuple us.toArray) := by
                  refine asRes_rel (by rw [o2, List.length_map, hzlen]; exact u2) (fun i y u hy hu => ?_) (fun y hy => ?_)
                  · rw [o2, List.getElem?_map] at hy
                    cases hz : zs[i]? with
                    | none => rw [hz] at hy; cases hy
                    | some z =>
                      rw [hz] at hy
                      simp only [Option.map_some, Option.some.injEq] at hy
                      subst hy
                      have hi : i < xs.length := by rw [← hzlen]; exact (List.getElem?_eq_some_iff.1 hz).1
                      obtain ⟨k1, k2⟩ := hzrel i xs[i] z (List.getElem?_eq_getElem hi) hz
                      have hu0 := u3 i xs[i] u (List.getElem?_eq_getElem hi) hu
                      have hu1 := k1 u (RelD.step m2.ext m2.evo _ _ hu0)
                      have hu2 := Gone.rel p2 hfo2 (fun q hq hk => by have := k2 q hq; omega) hu1
                      obtain ⟨z1, z2⟩ := o3 z (List.mem_of_getElem? hz)
                      exact o1.value (.inl ⟨z1, rfl, z2⟩) q2 hu2
                  · rw [o2] at hy
                    obtain ⟨z, hz, rfl⟩ := List.mem_map.1 hy
                    obtain ⟨z1, z2⟩ := and2 (fin.vals z hz)
                    obtain ⟨r1, r2, r3⟩ := renT_kind (renBy ps) z.need.2
                    exact ⟨by rw [r1]; exact z1, by rw [r2, r3]; exact z2⟩
                have hfolE : Fol s0 loc (endSt F.e s0 hs) (fun q => loc2 (srcBy ps q)) F.e.hin.length := by
                  have f1 : Fol s0 loc (addNils (frzs s fs) s.nx ts) locM s0.nx := hfol.trans m1.fol hnx
                  have f2 : Fol s0 loc M loc2 s0.nx := f1.trans p3 (by omega)
                  rw [← t3]
                  refine f2.trans (o1.fol (n := s0.nx) fun q hq hk => ?_) (Nat.le_refl _)
                  have hk' := (o4 q).2 hk
                  rcases fin.outs q hk' with h1 | h1
                  · omega
                  · exact fin.stay q h1 hk'
                have hpost : ∃ v, (results fn a'.tmps).run P w' = .ok v w' ∧ (∃ v_1 loc' β' H' S', Ending.returned v = .returned v_1 ∧ Heap (endSt F.e s0 hs) loc' β' H' S' w' Wr own0 n0 ∧ RelD β' H' S' w' (encD (endSt F.e s0 hs) loc' (asRes res)) v_1 ∧ Gone Wr own0 n0 β H S w β' H' S' w' ∧
                    Fol s0 loc (endSt F.e s0 hs) loc' F.e.hin.length) :=
                  ⟨_, run_results u1, _, _, β2, H3, S2, rfl, q1, hval, ((hgo.trans m2).trans p2).trans q2, hfolE⟩
                rcases hee with rfl | rfl
                · exact ⟨hs'.defers, hpost⟩
                · exact ⟨hs'.defers, hpost⟩
              · cases hfin
            · cases hfin
          · cases hfin
        · exfalso
          rw [he] at hok; cases hok
      · cases hend
    · exfalso
      rw [he] at hok; cases hok

end
end Go.Tm

namespace Go.Tm
open Go.Vm
set_option linter.unusedVariables false
set_option linter.unusedSimpArgs false

section
variable {ps : List (Nat × Nat)} {N : Nat} {a M s s0 s' : St} {loc loc' locE : Loc} {β β' : Nat → Option (Nat × Nat)} {H H' : List Ob} {S S' : Nat → Nat → Prop} {act : Act} {w w' : World} {Wr : Nat → Prop} {own0 own1 : Nat → Prop} {n0 n : Nat} {e : Ent}

/-- A state under other names, no array of which is told to be more than it was. -/
theorem Over.heap_same (hh : Heap a loc β H S w Wr own0 n0) (h : Over ps a M) (hz : ∀ k r, (k, r) ∈ ps → (M.root k).live = true → ∀ t L fz, (M.root k).rt = .arr t L fz → (a.root r).rt = .arr t L fz) : Heap M (fun q => loc (srcBy ps q)) β H S w Wr own0 n0 := by
  obtain ⟨H', hm, _⟩ := h.heap hh
  refine ⟨hh.heap, fun q hg => ?_, hm.inj, hm.own, hh.len, hh.fresh⟩
  by_cases hl : (M.root q).live = true
  · by_cases hk : q ∈ ps.map (·.1)
    · obtain ⟨r, hkr⟩ := mem_left hk
      obtain ⟨h1, h2⟩ := h.named q r hkr hl
      have ha := hh.at_ r h1
      have hz := hz q r hkr hl
      show match (M.root q).rt with
        | .var _ x => (loc (srcBy ps q)).2 = 0 ∧ x.solid = true ∧ ∃ cs, H[(loc (srcBy ps q)).1]? = some (.cells 1 0 cs false) ∧ WkL cs (encC M (fun q => loc (srcBy ps q)) x)
        | .arr t L fz => (loc (srcBy ps q)).2 ≠ 0 ∧ 0 < t.size ∧ ∃ cs, H[(loc (srcBy ps q)).1]? = some (.cells t.size (loc (srcBy ps q)).2 cs fz) ∧ WkL cs (L.flatMap (enc t))
        | .gone => True
      rw [h.once.src hkr]
      generalize hx : (a.root r).rt = x at h2 ha hz
      generalize hy : (M.root q).rt = y at h2 hz ⊢
      cases x <;> cases y <;> first | exact h2.elim | trivial | skip
      · rename_i ty x ty' x'
        obtain ⟨e1, e2, e3, _⟩ := h2
        obtain ⟨a1, a2, cs, a3, a4⟩ := ha
        refine ⟨a1, e2, cs, a3, a4.trans ?_⟩
        rw [e1]
        exact encC_ren h.ren x e3
      · rename_i t L fz t' L' fz'
        have := hz t' L' fz' rfl
        rw [this] at ha
        exact ha
    · obtain ⟨h1, _, h3⟩ := h.rest q hk hl
      have ha := hh.at_ q (by rw [← h1]; exact hg)
      rw [h1]
      show match (a.root q).rt with
        | .var _ x => (loc (srcBy ps q)).2 = 0 ∧ x.solid = true ∧ ∃ cs, H[(loc (srcBy ps q)).1]? = some (.cells 1 0 cs false) ∧ WkL cs (encC M (fun q => loc (srcBy ps q)) x)
        | .arr t L fz => (loc (srcBy ps q)).2 ≠ 0 ∧ 0 < t.size ∧ ∃ cs, H[(loc (srcBy ps q)).1]? = some (.cells t.size (loc (srcBy ps q)).2 cs fz) ∧ WkL cs (L.flatMap (enc t))
        | .gone => True
      rw [src_none hk]
      generalize hx : (a.root q).rt = x at h3 ha
      cases x with
      | gone => trivial
      | var ty x =>
        obtain ⟨a1, a2, cs, a3, a4⟩ := ha
        have := encC_ren (loc := loc) h.id x h3
        rw [renT_id] at this
        exact ⟨a1, a2, cs, a3, a4.trans this⟩
      | arr t L fz => exact ha
  · have : (M.root q).rt = .gone := by
      simp only [HE.live, hg, Bool.true_and, Bool.not_eq_true] at hl
      cases hrt : (M.root q).rt with
      | gone => rfl
      | var _ _ => rw [hrt] at hl; cases hl
      | arr _ _ _ => rw [hrt] at hl; cases hl
    rw [this]; trivial

theorem renT_inv {f g : Nat → Nat} : ∀ x : T, (∀ p ∈ x.names, g (f p) = p) → renT g (renT f x) = x
  | .pure t v, _ => rfl
  | .cst v, _ => rfl
  | .row x, h => by simp only [renT]; rw [renT_inv x h]
  | .pair a b, h => by simp only [renT]; rw [renT_inv a fun p hp => h p (List.mem_append_left _ hp), renT_inv b fun p hp => h p (List.mem_append_right _ hp)]
  | .own r sz, h => by simp only [renT]; rw [h r (.head _)]
  | .sref r sz lo n, h => by simp only [renT]; rw [h r (.head _)]
  | .ptr r p, h => by simp only [renT]; rw [h r (.head _)]
  | .loc t L p, _ => rfl
  | .fn f' x, h => by simp only [renT]; rw [renT_inv x h]
  | .tup x, h => by simp only [renT]; rw [renT_inv x h]
  | .may g' x, h => by simp only [renT]; rw [renT_inv x h]
  | .undef, _ => rfl

theorem names_ren (f : Nat → Nat) : ∀ (x : T) (p : Nat), p ∈ (renT f x).names → ∃ q ∈ x.names, f q = p
  | .pure t v, p, h => by cases h
  | .cst v, p, h => by cases h
  | .row x, p, h => names_ren f x p h
  | .pair a b, p, h => by
    rcases List.mem_append.1 (show p ∈ (renT f a).names ++ (renT f b).names from h) with h | h
    · obtain ⟨q, h1, h2⟩ := names_ren f a p h; exact ⟨q, List.mem_append_left _ h1, h2⟩
    · obtain ⟨q, h1, h2⟩ := names_ren f b p h; exact ⟨q, List.mem_append_right _ h1, h2⟩
  | .own r sz, p, h => ⟨r, .head _, (List.mem_singleton.1 h).symm⟩
  | .sref r sz lo n, p, h => ⟨r, .head _, (List.mem_singleton.1 h).symm⟩
  | .ptr r q, p, h => ⟨r, .head _, (List.mem_singleton.1 h).symm⟩
  | .loc t L q, p, h => by cases h
  | .fn g x, p, h => names_ren f x p h
  | .tup x, p, h => names_ren f x p h
  | .may g x, p, h => names_ren f x p h
  | .undef, p, h => by cases h

theorem sameRt_ren2 {f : Nat → Nat} {x y : Rt} (h : sameRt x y) : sameRt x (renRt f y) := by
  cases x <;> cases y <;> exact h

theorem look_ren {g : Nat → Nat} {l : List (Nat × Rt)} {q : Nat} {y : Rt} (h : look (l.map fun x => (g x.1, renRt g x.2)) q = some y) : ∃ x ∈ l, g x.1 = q ∧ y = renRt g x.2 := by
  obtain ⟨x, hx, he⟩ := List.mem_map.1 (look_mem _ _ _ h)
  simp only [Prod.mk.injEq] at he
  exact ⟨x, hx, he.1, he.2.symm⟩

open Classical in
/-- What is kept behind a call, by the caller's names. -/
theorem call_back (hM : Heap M loc β H S w Wr own0 n0) (hbM : Below M n) (hov : Over ps M s0) (hkeys : ∀ k, k ∈ e.hin.map (·.1) ↔ k ∈ ps.map (·.1)) (hall : ∀ k r, (k, r) ∈ ps → (s0.root k).live = true)
    (hz : ∀ k r, (k, r) ∈ ps → (s0.root k).live = true → ∀ t L fz, (s0.root k).rt = .arr t L fz → (M.root r).rt = .arr t L fz) (hdead : ∀ q, q ∉ ps.map (·.1) → (s0.root q).live = false)
    (hent : entOk e = true) {hs : List (Nat × Rt)} (hsk : hs.map (·.1) = e.hout.map (·.1)) (hnd : (e.hout.map (·.1)).Nodup) (hsn : ∀ x ∈ hs, ∀ p ∈ x.2.names, p ∈ e.hin.map (·.1) ∨ e.hin.length ≤ p)
    (hroot : ∀ q, s'.root q = match look (kept (hs.map fun x => (backName ps e.hin.length n x.1, renRt (backName ps e.hin.length n) x.2))) q with
      | some h => h
      | none => if q ∈ (e.hin.filter fun k => !(keyIn e.hout k.1) && !(memB e.ro k.1)).map (fun k => backName ps e.hin.length n k.1) then ⟨.ff, .gone⟩ else M.root q)
    (hE : Heap (endSt e s0 hs) locE β' H' S' w' Wr (fun id => ∃ r, (s0.root r).live = true ∧ (loc (srcBy ps r)).1 = id) H.length) (hg : Gone Wr (fun id => ∃ r, (s0.root r).live = true ∧ (loc (srcBy ps r)).1 = id) H.length β H S w β' H' S' w')
    (hf : Fol s0 (fun q => loc (srcBy ps q)) (endSt e s0 hs) locE e.hin.length) :
    ∃ loc', Heap s' loc' β' H' S' w' Wr own0 n0 ∧ Gone Wr own0 n0 β H S w β' H' S' w' ∧ RenP (fun p => p ∈ e.hin.map (·.1) ∨ e.hin.length ≤ p) (endSt e s0 hs) locE s' loc' (backName ps e.hin.length n) ∧ RenP (fun p => p < n) M loc s' loc' (fun q => q) := by
  obtain ⟨e1, e2⟩ := and2 hent
  obtain ⟨e2, e3⟩ := and2 e2
  have hlow : ∀ k ∈ e.hin.map (·.1), k < e.hin.length := fun k hk => by
    obtain ⟨x, hx, rfl⟩ := List.mem_map.1 hk
    exact Nat.le_of_ble_eq_true (List.all_eq_true.1 e1 x hx)
  have hro : ∀ k ∈ e.ro, k ∉ e.hout.map (·.1) ∧ k ∈ e.hin.map (·.1) := fun k hk => by
    obtain ⟨h1, h2⟩ := and2 (List.all_eq_true.1 e3 k hk)
    exact ⟨(fun hm => by rw [keyIn_iff.2 hm] at h1; cases h1), keyIn_iff.1 h2⟩
  have hout : ∀ k ∈ e.hout.map (·.1), k ∈ e.hin.map (·.1) ∨ e.hin.length ≤ k := fun k hk => by
    obtain ⟨x, hx, rfl⟩ := List.mem_map.1 hk
    have := List.all_eq_true.1 e2 x hx
    rw [Bool.or_eq_true] at this
    rcases this with h1 | h1
    · exact .inr (Nat.le_of_ble_eq_true h1)
    · exact .inl (keyIn_iff.1 h1)
  have hlv : ∀ k r, (k, r) ∈ ps → (M.root r).live = true := fun k r hkr => by
    obtain ⟨h1, h2⟩ := hov.named k r hkr (hall k r hkr)
    exact live_iff.2 ⟨h1, h2.alive⟩
  have nmIn : ∀ k r, (k, r) ∈ ps → backName ps e.hin.length n k = r := fun k r hkr => by unfold backName; rw [look_of_mem hov.once.l hkr]
  have nmOut : ∀ k, k ∉ ps.map (·.1) → backName ps e.hin.length n k = n + (k - e.hin.length) := fun k hk => by
    unfold backName
    cases hl : look ps k with
    | none => rfl
    | some r => exact absurd (look_key hl) hk
  have nmLt : ∀ k, k ∈ e.hin.map (·.1) → backName ps e.hin.length n k < n := fun k hk => by
    obtain ⟨r, hkr⟩ := mem_left ((hkeys k).1 hk)
    rw [nmIn k r hkr]
    exact hbM.rootN (hlv k r hkr)
  have nmGe : ∀ k, k ∉ e.hin.map (·.1) → n ≤ backName ps e.hin.length n k := fun k hk => by rw [nmOut k fun h => hk ((hkeys k).2 h)]; omega
  have nmInj : ∀ p p', (p ∈ e.hin.map (·.1) ∨ e.hin.length ≤ p) → (p' ∈ e.hin.map (·.1) ∨ e.hin.length ≤ p') → backName ps e.hin.length n p = backName ps e.hin.length n p' → p = p' := fun p p' hp hp' he => by
    by_cases h1 : p ∈ e.hin.map (·.1)
    · have l1 := nmLt p h1
      by_cases h2 : p' ∈ e.hin.map (·.1)
      · obtain ⟨r, hr⟩ := mem_left ((hkeys p).1 h1)
        obtain ⟨r', hr'⟩ := mem_left ((hkeys p').1 h2)
        rw [nmIn p r hr, nmIn p' r' hr'] at he
        subst he
        rw [← hov.once.ren hr, ← hov.once.ren hr']
      · have l2 := nmGe p' h2
        omega
    · have l1 := nmGe p h1
      by_cases h2 : p' ∈ e.hin.map (·.1)
      · have l2 := nmLt p' h2
        omega
      · rw [nmOut p fun h => h1 ((hkeys p).2 h), nmOut p' fun h => h2 ((hkeys p').2 h)] at he
        have := hp.resolve_left h1
        have := hp'.resolve_left h2
        omega
  let kk : Nat → Prop := fun k => k ∈ e.hout.map (·.1) ∨ k ∈ e.ro
  have kkA : ∀ k, kk k → k ∈ e.hin.map (·.1) ∨ e.hin.length ≤ k := fun k hk => by
    rcases hk with hk | hk
    · exact hout k hk
    · exact .inl (hro k hk).2
  let back : Nat → Option Nat := fun q => if h : ∃ k, kk k ∧ backName ps e.hin.length n k = q then some h.choose else none
  have hback : ∀ q k, back q = some k → kk k ∧ backName ps e.hin.length n k = q := fun q k hq => by
    simp only [back] at hq
    split at hq
    · rename_i h
      injection hq with hq
      rw [← hq]; exact h.choose_spec
    · cases hq
  have hbackOf : ∀ k, kk k → back (backName ps e.hin.length n k) = some k := fun k hk => by
    simp only [back]
    have hex : ∃ k', kk k' ∧ backName ps e.hin.length n k' = backName ps e.hin.length n k := ⟨k, hk, rfl⟩
    rw [dif_pos hex]
    have hsp := hex.choose_spec
    rw [nmInj _ k (kkA _ hsp.1) (kkA k hk) hsp.2]
  have hbackNone : ∀ q, back q = none → ∀ k, kk k → backName ps e.hin.length n k ≠ q := fun q hq k hk he => by
    subst he
    rw [hbackOf k hk] at hq; cases hq
  have hndh : (hs.map (·.1)).Nodup := by rw [hsk]; exact hnd
  -- what the roots behind the call are
  have hLsome : ∀ q h, look (kept (hs.map fun x => (backName ps e.hin.length n x.1, renRt (backName ps e.hin.length n) x.2))) q = some h → ∃ x ∈ hs, backName ps e.hin.length n x.1 = q ∧ h = ⟨.tt, renRt (backName ps e.hin.length n) x.2⟩ := fun q h hl => by
    rw [look_kept] at hl
    obtain ⟨y, hy, rfl⟩ := Option.map_eq_some_iff.1 hl
    obtain ⟨x, hx, h1, h2⟩ := look_ren hy
    exact ⟨x, hx, h1, by rw [h2]⟩
  have hLof : ∀ x ∈ hs, look (kept (hs.map fun x => (backName ps e.hin.length n x.1, renRt (backName ps e.hin.length n) x.2))) (backName ps e.hin.length n x.1) = some ⟨.tt, renRt (backName ps e.hin.length n) x.2⟩ := fun x hx => by
    have hk : backName ps e.hin.length n x.1 ∈ ((hs.map fun x => (backName ps e.hin.length n x.1, renRt (backName ps e.hin.length n) x.2)).map (·.1)) := List.mem_map.2 ⟨_, List.mem_map.2 ⟨x, hx, rfl⟩, rfl⟩
    obtain ⟨y, hy⟩ := look_keys.1 hk
    obtain ⟨x', hx', h1, h2⟩ := look_ren hy
    have hxk : x.1 ∈ e.hout.map (·.1) := by rw [← hsk]; exact List.mem_map.2 ⟨x, hx, rfl⟩
    have hxk' : x'.1 ∈ e.hout.map (·.1) := by rw [← hsk]; exact List.mem_map.2 ⟨x', hx', rfl⟩
    have hke := nmInj _ _ (kkA _ (.inl hxk')) (kkA _ (.inl hxk)) h1
    have hxe : x' = x := by
      have l1 := look_of_mem hndh (show (x.1, x.2) ∈ hs from hx)
      have l2 := look_of_mem hndh (show (x'.1, x'.2) ∈ hs from hx')
      rw [hke, l1] at l2
      injection l2 with l2
      exact Prod.ext hke l2.symm
    rw [look_kept, hy, h2, hxe]; rfl
  have hEroot : ∀ x ∈ hs, (endSt e s0 hs).root x.1 = ⟨.tt, x.2⟩ := fun x hx => by rw [endSt_root, look_of_mem hndh (show (x.1, x.2) ∈ hs from hx)]
  have hEro : ∀ k ∈ e.ro, (endSt e s0 hs).root k = s0.root k := fun k hk => by
    rw [endSt_root]
    have : look hs k = none := by
      cases hl : look hs k with
      | none => rfl
      | some rt => exact absurd (by rw [← hsk]; exact look_key hl) (hro k hk).1
    rw [this]
    simp only
    rw [if_pos hk]
  have hout' : ∀ k ∈ e.hout.map (·.1), ∃ x ∈ hs, x.1 = k := fun k hk => by rw [← hsk] at hk; obtain ⟨x, hx, rfl⟩ := List.mem_map.1 hk; exact ⟨x, hx, rfl⟩
  have hlostN : ∀ q, q ∈ (e.hin.filter fun k => !(keyIn e.hout k.1) && !(memB e.ro k.1)).map (fun k => backName ps e.hin.length n k.1) ↔ ∃ k ∈ e.hin.map (·.1), k ∉ e.hout.map (·.1) ∧ k ∉ e.ro ∧ backName ps e.hin.length n k = q := fun q => by
    constructor
    · intro h
      obtain ⟨x, hx, rfl⟩ := List.mem_map.1 h
      obtain ⟨h1, h2⟩ := List.mem_filter.1 hx
      obtain ⟨h3, h4⟩ := and2 h2
      exact ⟨x.1, List.mem_map.2 ⟨x, h1, rfl⟩, (fun hm => by rw [keyIn_iff.2 hm] at h3; cases h3), (fun hm => by rw [memB_iff.2 hm] at h4; cases h4), rfl⟩
    · rintro ⟨k, hk, h1, h2, rfl⟩
      obtain ⟨x, hx, rfl⟩ := List.mem_map.1 hk
      refine List.mem_map.2 ⟨x, List.mem_filter.2 ⟨hx, ?_⟩, rfl⟩
      have b1 : keyIn e.hout x.1 = false := by cases hb : keyIn e.hout x.1; rfl; exact absurd (keyIn_iff.1 hb) h1
      have b2 : memB e.ro x.1 = false := by cases hb : memB e.ro x.1; rfl; exact absurd (memB_iff.1 hb) h2
      rw [b1, b2]; rfl
  -- a root that comes back
  have hcame : ∀ q k, back q = some k → (s'.root q).live = true → ((endSt e s0 hs).root k).live = true ∧ (s'.root q).rt = renRt (backName ps e.hin.length n) ((endSt e s0 hs).root k).rt ∧ ∀ p ∈ ((endSt e s0 hs).root k).rt.names, p ∈ e.hin.map (·.1) ∨ e.hin.length ≤ p := fun q k hq hl => by
    obtain ⟨hk, rfl⟩ := hback q k hq
    rw [hroot] at hl ⊢
    by_cases hko : k ∈ e.hout.map (·.1)
    · obtain ⟨x, hx, rfl⟩ := hout' k hko
      rw [hLof x hx] at hl ⊢
      rw [hEroot x hx]
      simp only at hl ⊢
      refine ⟨?_, trivial, hsn x hx⟩
      have := (live_iff.1 hl).2
      refine live_iff.2 ⟨rfl, ?_⟩
      cases hx2 : x.2 <;> first | rfl | skip
      rw [hx2] at this; cases this
    · have hkr : k ∈ e.ro := hk.resolve_left hko
      have hnone : look (kept (hs.map fun x => (backName ps e.hin.length n x.1, renRt (backName ps e.hin.length n) x.2))) (backName ps e.hin.length n k) = none := by
        cases hl2 : look (kept (hs.map fun x => (backName ps e.hin.length n x.1, renRt (backName ps e.hin.length n) x.2))) (backName ps e.hin.length n k) with
        | none => rfl
        | some h =>
          obtain ⟨x, hx, h1, _⟩ := hLsome _ _ hl2
          have hxk : x.1 ∈ e.hout.map (·.1) := by rw [← hsk]; exact List.mem_map.2 ⟨x, hx, rfl⟩
          have := nmInj _ _ (kkA _ (.inl hxk)) (kkA _ hk) h1
          exact absurd (this ▸ hxk) hko
      have hnl : backName ps e.hin.length n k ∉ (e.hin.filter fun k => !(keyIn e.hout k.1) && !(memB e.ro k.1)).map (fun k => backName ps e.hin.length n k.1) := fun hm => by
        obtain ⟨k', h1, h2, h3, h4⟩ := (hlostN _).1 hm
        have := nmInj _ _ (.inl h1) (kkA _ hk) h4
        subst this
        exact h3 hkr
      rw [hnone] at hl ⊢
      simp only at hl ⊢
      rw [if_neg hnl] at hl ⊢
      rw [hEro k hkr]
      obtain ⟨r, hkr'⟩ := mem_left ((hkeys k).1 (hro k hkr).2)
      rw [nmIn k r hkr'] at hl ⊢
      have hl0 := hall k r hkr'
      obtain ⟨g1, g2⟩ := hov.named k r hkr' hl0
      refine ⟨hl0, ?_, fun p hp => ?_⟩
      · have hzz := hz k r hkr' hl0
        generalize (M.root r).rt = x at g2 hzz
        generalize (s0.root k).rt = y at g2 hzz
        cases x <;> cases y <;> first | exact g2.elim | skip
        · rename_i ty x ty' x'
          obtain ⟨rfl, _, g3, rfl⟩ := g2
          show Rt.var ty' x = Rt.var ty' (renT (backName ps e.hin.length n) (renT (renBy ps) x))
          rw [renT_inv x]
          intro p hp
          obtain ⟨k', hk'⟩ := mem_right (g3 p hp)
          rw [hov.once.ren hk', nmIn k' p hk']
        · rename_i t L fz t' L' fz'
          exact hzz t' L' fz' rfl
      · generalize (M.root r).rt = x at g2
        generalize (s0.root k).rt = y at g2 hp
        cases x <;> cases y <;> first | exact g2.elim | skip
        · rename_i ty x ty' x'
          obtain ⟨rfl, _, g3, _⟩ := g2
          obtain ⟨p', hp', rfl⟩ := names_ren _ x p hp
          obtain ⟨k', hk'⟩ := mem_right (g3 p' hp')
          rw [hov.once.ren hk']
          exact .inl ((hkeys k').2 (List.mem_map.2 ⟨_, hk', rfl⟩))
        · cases hp
  have hstay : ∀ q, back q = none → (s'.root q).live = true → s'.root q = M.root q := fun q hq hl => by
    rw [hroot] at hl ⊢
    cases hl2 : look (kept (hs.map fun x => (backName ps e.hin.length n x.1, renRt (backName ps e.hin.length n) x.2))) q with
    | some h =>
      obtain ⟨x, hx, h1, _⟩ := hLsome _ _ hl2
      have hxk : x.1 ∈ e.hout.map (·.1) := by rw [← hsk]; exact List.mem_map.2 ⟨x, hx, rfl⟩
      exact absurd h1 (hbackNone q hq x.1 (.inl hxk))
    | none =>
      rw [hl2] at hl
      simp only at hl ⊢
      by_cases hm : q ∈ (e.hin.filter fun k => !(keyIn e.hout k.1) && !(memB e.ro k.1)).map (fun k => backName ps e.hin.length n k.1)
      · rw [if_pos hm] at hl; cases hl
      · rw [if_neg hm]
  let loc' : Loc := fun q => match back q with | some k => locE k | none => loc q
  have hlocS : ∀ q k, back q = some k → loc' q = locE k := fun q k hq => by simp only [loc']; rw [hq]
  have hlocN : ∀ q, back q = none → loc' q = loc q := fun q hq => by simp only [loc']; rw [hq]
  have hren : RenP (fun p => p ∈ e.hin.map (·.1) ∨ e.hin.length ≤ p) (endSt e s0 hs) locE s' loc' (backName ps e.hin.length n) := fun p hp hl => by
    cases hb : back (backName ps e.hin.length n p) with
    | some k =>
      obtain ⟨hk, hk2⟩ := hback _ _ hb
      have := nmInj k p (kkA k hk) hp hk2
      subst this
      obtain ⟨c1, c2, _⟩ := hcame _ _ hb hl
      exact ⟨c1, hlocS _ _ hb, by rw [c2]; exact sameRt_ren2 (sameRt.refl (live_iff.1 c1).2)⟩
    | none =>
      exfalso
      have hnk : ¬ kk p := fun hk => hbackNone _ hb p hk rfl
      have he := hstay _ hb hl
      by_cases hin : p ∈ e.hin.map (·.1)
      · rw [hroot] at hl
        cases hl2 : look (kept (hs.map fun x => (backName ps e.hin.length n x.1, renRt (backName ps e.hin.length n) x.2))) (backName ps e.hin.length n p) with
        | some h =>
          obtain ⟨x, hx, h1, _⟩ := hLsome _ _ hl2
          have hxk : x.1 ∈ e.hout.map (·.1) := by rw [← hsk]; exact List.mem_map.2 ⟨x, hx, rfl⟩
          exact hbackNone _ hb x.1 (.inl hxk) h1
        | none =>
          rw [hl2] at hl
          simp only at hl
          rw [if_pos ((hlostN _).2 ⟨p, hin, fun h => hnk (.inl h), fun h => hnk (.inr h), rfl⟩)] at hl
          cases hl
      · have hge := nmGe p hin
        rw [he] at hl
        have := hbM.rootN hl
        omega
  have hids : RenP (fun p => p < n) M loc s' loc' (fun q => q) := fun p hp hl => by
    cases hb : back p with
    | some k =>
      obtain ⟨hk, rfl⟩ := hback _ _ hb
      have hin : k ∈ e.hin.map (·.1) := by
        refine Classical.byContradiction fun hn => ?_
        have := nmGe k hn
        omega
      obtain ⟨r, hkr⟩ := mem_left ((hkeys k).1 hin)
      obtain ⟨c1, c2, _⟩ := hcame _ _ hb hl
      obtain ⟨f1, f2, f3⟩ := hf k (hlow k hin) c1
      obtain ⟨g1, g2⟩ := hov.named k r hkr f1
      rw [nmIn k r hkr] at hb c2 ⊢
      refine ⟨live_iff.2 ⟨g1, g2.alive⟩, ?_, ?_⟩
      · show loc' r = loc r
        rw [hlocS _ _ hb, f2]
        show loc (srcBy ps k) = loc r
        rw [hov.once.src hkr]
      · show sameRt (M.root r).rt (s'.root r).rt
        rw [c2]
        exact sameRt_ren2 (g2.same.trans f3)
    | none =>
      have he := hstay _ hb hl
      refine ⟨by rw [← he]; exact hl, hlocN _ hb, ?_⟩
      show sameRt (M.root p).rt (s'.root p).rt
      rw [he]
      exact sameRt.refl (by rw [← he]; exact (live_iff.1 hl).2)
  have hb : Back M loc s0 (fun q => loc (srcBy ps q)) (endSt e s0 hs) locE s' loc' (backName ps e.hin.length n) back (fun p => p ∈ e.hin.map (·.1) ∨ e.hin.length ≤ p) (fun p => p < n) := by
    refine ⟨fun k hl => ?_, fun q k hq hl => ?_, fun q hq hl => ?_, fun q q' k hq hq' _ _ => ?_, hren, hids⟩
    · have hk : k ∈ ps.map (·.1) := by
        refine Classical.byContradiction fun hn => ?_
        rw [hdead k hn] at hl; cases hl
      obtain ⟨r, hkr⟩ := mem_left hk
      refine ⟨r, hlv k r hkr, by show loc (srcBy ps k) = loc r; rw [hov.once.src hkr], fun hl' => ?_⟩
      have hin := (hkeys k).2 hk
      by_cases hkk : kk k
      · rw [← nmIn k r hkr, hbackOf k hkk]; rfl
      · cases hb : back r with
        | some _ => rfl
        | none =>
          exfalso
          rw [hroot] at hl'
          cases hl2 : look (kept (hs.map fun x => (backName ps e.hin.length n x.1, renRt (backName ps e.hin.length n) x.2))) r with
          | some h =>
            obtain ⟨x, hx, h1, _⟩ := hLsome _ _ hl2
            have hxk : x.1 ∈ e.hout.map (·.1) := by rw [← hsk]; exact List.mem_map.2 ⟨x, hx, rfl⟩
            exact hbackNone _ hb x.1 (.inl hxk) h1
          | none =>
            rw [hl2] at hl'
            simp only at hl'
            rw [if_pos ((hlostN _).2 ⟨k, hin, fun h => hkk (.inl h), fun h => hkk (.inr h), nmIn k r hkr⟩)] at hl'
            cases hl'
    · obtain ⟨c1, c2, c3⟩ := hcame q k hq hl
      exact ⟨c1, c2, hlocS q k hq, c3⟩
    · have he := hstay q hq hl
      exact ⟨he, hlocN q hq, fun p hp => hbM.varN hp⟩
    · obtain ⟨_, h1⟩ := hback q k hq
      obtain ⟨_, h2⟩ := hback q' k hq'
      rw [← h1, ← h2]
  obtain ⟨r1, r2⟩ := hb.heap (own1 := fun id => ∃ r, (s0.root r).live = true ∧ (loc (srcBy ps r)).1 = id) hM (fun id h => h) hE hg
  exact ⟨loc', r1, r2, hren, hids⟩

end
end Go.Tm

namespace Go.Tm
open Go.Vm
set_option linter.unusedVariables false
set_option linter.unusedSimpArgs false

section
variable {ps : List (Nat × Nat)} {N : Nat} {a M s s0 s' : St} {loc loc' locE : Loc} {β β' : Nat → Option (Nat × Nat)} {H H' : List Ob} {S S' : Nat → Nat → Prop} {act : Act} {w w' : World} {Wr : Nat → Prop} {own0 own1 : Nat → Prop} {n0 n fr : Nat} {e : Ent} {P : Program}

/-- What binding names to a shape leads to; no array is told to be more than it was. -/
theorem bind_same {sks xs : List T} {hr : List (Nat × Rt)} {g : G} {lv : List Leaf} (h : bindTo a ps sks xs hr = some (g, lv)) (hg : g.val = true) (hz : sameFz a ps hr = true) :
    Once ps ∧ (hr.map (·.1)).Nodup ∧ (∀ k, k ∈ hr.map (·.1) ↔ k ∈ ps.map (·.1)) ∧ sks.length = xs.length ∧ (∀ x ∈ xs, x.need.1.val = true ∧ ∀ q ∈ x.need.2.names, q ∈ ps.map (·.2)) ∧
    ∃ l2 hr', plugTs sks lv = some (xs.map fun x => renT (renBy ps) x.need.2, l2) ∧ plugRs hr l2 = some (hr', []) ∧ hr'.map (·.1) = hr.map (·.1) ∧
      ∀ k rt, look hr' k = some rt → ∃ r, (k, r) ∈ ps ∧ (a.root r).g.val = true ∧ RtFit ps (a.root r).rt rt ∧ ∀ t L fz, rt = .arr t L fz → (a.root r).rt = .arr t L fz := by
  obtain ⟨h1, h2, h3, h4, h5, l2, hr', k1, k2, k3, k4⟩ := bind_some h hg
  refine ⟨h1, h2, h3, h4, h5, l2, hr', k1, k2, k3, fun k rt hl => ?_⟩
  obtain ⟨r, m1, m2, m3⟩ := k4 k rt hl
  refine ⟨r, m1, m2, m3, fun t L fz ht => ?_⟩
  -- the shape's own word
  unfold bindTo at h
  split at h
  · split at h
    · rename_i g1 l1' g2 l2' hm hn
      simp only [Option.some.injEq, Prod.mk.injEq] at h
      obtain ⟨rfl, rfl⟩ := h
      rw [G.and_val] at hg
      obtain ⟨hg1, hg2⟩ := and2 hg
      obtain ⟨q1, q2, q3⟩ := matchTs_some sks xs g1 l1' hm hg1 l2'
      rw [q1] at k1
      simp only [Option.some.injEq, Prod.mk.injEq] at k1
      obtain ⟨_, rfl⟩ := k1
      obtain ⟨hr2, p1, p2, p3⟩ := matchRs_some hr g2 l2' hn hg2
      have := p1 []
      rw [List.append_nil, k2] at this
      simp only [Option.some.injEq, Prod.mk.injEq] at this
      obtain ⟨rfl, _⟩ := this
      obtain ⟨r', sk, e1, e2, e3, e4, e5, e6⟩ := p3 k rt (look_mem _ _ _ hl)
      have hrr : r' = r := by
        have := look_of_mem h1.l m1
        rw [e2] at this
        injection this
      subst hrr
      have hzz := List.all_eq_true.1 hz _ e1
      simp only [e2] at hzz
      rw [ht] at m3 e5
      generalize (a.root r').rt = y at m3 e4 e5 hzz
      cases y with
      | gone => exact m3.elim
      | var ty x => exact m3.elim
      | arr t' L' fz' =>
        cases sk with
        | gone => cases e4
        | var ty x => cases e4
        | arr t2 L2 fz2 =>
          simp only at hzz
          have hzz : fz2 = fz' := by simpa using hzz
          subst hzz
          exact e5.symm
    · cases h
  · cases h

theorem applyTo_some {F : Fun} {g0 : G} {lv : List Leaf} {r : OpR} (h : applyTo fr s M n F ps g0 lv = some r) : ∃ x res l1 hs, HL.of F.e.ins lv = some x ∧ plugTs F.e.aout (HL.leaves F.e.outs (F.fn x).2) = some (res, l1) ∧ plugRs F.e.hout l1 = some (hs, []) ∧
    (∀ x ∈ res, ∀ p ∈ x.names, p ∈ F.e.hin.map (·.1) ∨ F.e.hin.length ≤ p) ∧ (∀ x ∈ hs, ∀ p ∈ x.2.names, p ∈ F.e.hin.map (·.1) ∨ F.e.hin.length ≤ p) ∧ (∀ x ∈ applyUp s M n F.e ps hs, x.1 < fr + stride) ∧ (F.e.hout.map (·.1)).Nodup ∧
    r = ⟨.and g0 (.of (F.fn x).1), asRes (res.map (renT (backName ps F.e.hin.length n))), applyUp s M n F.e ps hs⟩ := by
  unfold applyTo at h
  split at h
  · rename_i x hx
    split at h
    · rename_i res l1 h1
      split at h
      · rename_i hs h2
        split at h
        · rename_i hc
          obtain ⟨hc, hn⟩ := and2 hc
          obtain ⟨c1, hc⟩ := and2 hc
          obtain ⟨c2, c3⟩ := and2 hc
          injection h with h
          have hor : ∀ p, (keyIn F.e.hin p || Nat.ble F.e.hin.length p) = true → p ∈ F.e.hin.map (·.1) ∨ F.e.hin.length ≤ p := fun p hp => by
            rw [Bool.or_eq_true] at hp
            rcases hp with hp | hp
            · exact .inl (keyIn_iff.1 hp)
            · exact .inr (Nat.le_of_ble_eq_true hp)
          exact ⟨x, res, l1, hs, hx, h1, h2, fun x hx p hp => hor p (List.all_eq_true.1 (List.all_eq_true.1 c1 x hx) p hp), fun x hx p hp => hor p (List.all_eq_true.1 (List.all_eq_true.1 c2 x hx) p hp), fun x hx => Nat.le_of_ble_eq_true (List.all_eq_true.1 c3 x hx), nodupB_iff hn, h.symm⟩
        · cases h
      · cases h
    · cases h
  · cases h

theorem asRes_ren (f : Nat → Nat) (l : List T) : asRes (l.map (renT f)) = renT f (asRes l) := by
  have h : ∀ l : List T, T.ofList (l.map (renT f)) = renT f (T.ofList l) := by
    intro l
    induction l with
    | nil => rfl
    | cons x l ih => simp only [List.map_cons, T.ofList, renT, ih]
  match l with
  | [] => rfl
  | [x] => rfl
  | x :: y :: l =>
    show T.tup (T.ofList ((x :: y :: l).map (renT f))) = T.tup (renT f (T.ofList (x :: y :: l)))
    rw [h]

theorem asRes_names {l : List T} {p : Nat} (h : p ∈ (asRes l).names) : ∃ x ∈ l, p ∈ x.names := by
  have hl : ∀ l : List T, p ∈ (T.ofList l).names → ∃ x ∈ l, p ∈ x.names := by
    intro l
    induction l with
    | nil => intro h; cases h
    | cons x l ih =>
      intro h
      rcases List.mem_append.1 (show p ∈ x.names ++ (T.ofList l).names from h) with h | h
      · exact ⟨x, .head _, h⟩
      · obtain ⟨y, h1, h2⟩ := ih h
        exact ⟨y, .tail _ h1, h2⟩
  match l with
  | [] => cases h
  | [x] => exact ⟨x, .head _, h⟩
  | x :: y :: l => exact hl _ h

theorem capList_rel : ∀ (d : Nat) (x : T) (l : List T), capList d x = some l → x.solid = true → ∀ us, RelL β H S w (encC s loc x) us → us.length = l.length ∧ (∀ (i : Nat) y u, l[i]? = some y → us[i]? = some u → RelD β H S w (encD s loc y) u) ∧ ∀ y ∈ l, ∀ q ∈ y.names, q ∈ x.names
  | 0, x, l, h, hs, us, hr => by cases h
  | d + 1, x, l, h, hs, us, hr => by
    unfold capList at h
    split at h
    · injection h with h
      subst h
      have hr : RelL β H S w [] us := hr
      simp only [RelL] at hr
      subst hr
      exact ⟨rfl, fun i y u hy => by simp at hy, fun y hy => by cases hy⟩
    · split at h
      · rename_i a b hsp
        split at h
        · rename_i hc
          obtain ⟨c1, hc⟩ := and2 hc
          obtain ⟨c2, c3⟩ := and2 hc
          split at h
          · rename_i l' hl'
            injection h with h
            subst h
            obtain ⟨e1, _, e3, _⟩ := split_enc s loc hsp
            obtain ⟨n1, n2⟩ := split_names hsp
            rw [e1] at hr
            obtain ⟨u1, u2, rfl, r1, r2⟩ := RelL.split hr
            have hlen : (encC s loc a).length = 1 := by rw [encC_len s loc a c1, beq2 c2]
            obtain ⟨k1, k2, k3⟩ := capList_rel d b l' hl' (e3 hs).2 u2 r2
            match hc' : encC s loc a, hlen with
            | [c], _ =>
              rw [hc'] at r1
              simp only [RelL] at r1
              obtain ⟨u, us', rfl, q1, rfl⟩ := r1
              refine ⟨by simp [k1], fun i y v hy hv => ?_, fun y hy q hq => ?_⟩
              · cases i with
                | zero =>
                  simp at hy hv
                  subst hy; subst hv
                  rw [encD_v c1 (by rw [c2, Bool.or_true])]
                  have hrow : a.isRow = false := by simpa using c3
                  show RelV β H S w (encV s loc a) u
                  unfold encV
                  rw [hrow, hc']
                  exact q1
                | succ i => exact k2 i y v (by simpa using hy) (by simpa using hv)
              · cases hy with
                | head => exact n1 q hq
                | tail _ hy => exact n2 q (k3 y hy q hq)
          · cases h
        · cases h
      · cases h

end
end Go.Tm

namespace Go.Tm
open Go.Vm
set_option linter.unusedVariables false
set_option linter.unusedSimpArgs false

section
variable {N : Nat} {s : St} {loc : Loc} {β : Nat → Option (Nat × Nat)} {H : List Ob} {S : Nat → Nat → Prop} {w : World} {Wr : Nat → Prop} {own0 : Nat → Prop} {n0 fr : Nat} {P : Program}

theorem apply_sound {F : Fun} (hF : FunOk P F) {a : Act} (hh : Heap s loc β H S w Wr own0 n0) (hsl : Slots s loc β H S w a) (hb : Below s fr) {args : List T} {vals : Array Value} (hlen : vals.size = args.length)
    (hargs : ∀ i x, args[i]? = some x → RelD β H S w (encD s loc x) (vals.getD i undef)) (hn : ∀ x ∈ args, ∀ q ∈ x.names, q < fr) {r : OpR} (h : applyEnt s fr F args = some r) (hok : r.ok.val = true) :
    Calls P F.e.f vals w fun e w' => ∃ v loc' β' H' S', e = .returned v ∧ RelD β' H' S' w' (encD (addUp s .tt r.up) loc' r.res) v ∧ Heap (addUp s .tt r.up) loc' β' H' S' w' Wr own0 n0 ∧ Gone Wr own0 n0 β H S w β' H' S' w' ∧
      Follow s loc (addUp s .tt r.up) loc' fr (fr + stride) := by
  unfold applyEnt at h
  split at h
  · rename_i zs fs ts hzs
    unfold applyIn at h
    generalize nubP ((F.e.ain.zip zs).flatMap fun x => x.1.zipNames x.2.need.2) = ps0 at h
    have hbz := adaptRoots_grows (underNames F.e ps0) (ps0.map (·.2)) (addNils (frzs s fs) fr ts) (fr + ts.length)
    have hbs := fun {N : Nat} {loc : Loc} {β : Nat → Option (Nat × Nat)} {H : List Ob} {S : Nat → Nat → Prop} {act : Act} {w : World} {Wr : Nat → Prop} {own0 : Nat → Prop} {n0 : Nat} (hs : SR N (addNils (frzs s fs) fr ts) loc β H S act w Wr own0 n0) (hb : Below (addNils (frzs s fs) fr ts) (fr + ts.length)) =>
      adaptRoots_sound (b := underNames F.e ps0) (ps0.map (·.2)) hs hb
    generalize adaptRoots (underNames F.e ps0) (ps0.map (·.2)) (addNils (frzs s fs) fr ts) (fr + ts.length) = z at h hbz hbs
    obtain ⟨M, n⟩ := z
    unfold applyAt at h
    simp only at h hbz hbs
    generalize closePs F.e.hin M depth ps0 = ps at h
    unfold applyPs at h
    split at h
    · rename_i hfz
      split at h
      · rename_i g lv hbind
        obtain ⟨x, res, l1, hs, hx, hres, hhs, hrn, hsn, hup, hnd, hr⟩ := applyTo_some h
        rw [hr] at hok
        have hok' : (G.and g (.of (F.fn x).1)).val = true := hok
        rw [G.and_val] at hok'
        obtain ⟨hg, hfn⟩ := and2 hok'
        have hfn : (F.fn x).1 = true := hfn
        obtain ⟨hpos, hzlen⟩ := adaptTs_pos _ _ _ _ _ _ hzs
        obtain ⟨locM, βM, HM, SM, m1, m2, m3, m4⟩ := adapt_env hh hb fs ts hpos
        have hzrel := adaptTs_sound m1 args F.e.ain fr zs fs ts hzs hn (Nat.le_refl _) (fun i t hi => addNils_new ts _ fr i t hi) m4
        obtain ⟨hi1, hfo1⟩ := m1.fol.follow
        have hsr1 : SR a.tmps.size (addNils (frzs s fs) fr ts) locM βM HM SM { a with defers := [] } w Wr own0 n0 :=
          ⟨fun t => by
            have hslot : (addNils (frzs s fs) fr ts).slot t = s.slot t := by rw [addNils_slot, frzs_eq, addUp_slot]
            rw [hslot]
            exact Gone.rel m2 hfo1 (fun q hq hk => by have := hb.slotN hq; omega) (hsl t), m1.heap, rfl, rfl⟩
        obtain ⟨hnn, loc2, β2, H2, S2, p1, p2, p3, p4⟩ := hbs hsr1 m3
        have hgrM : Grows s M := ((frzs_grows s fs).trans (addNils_grows ts _ fr)).trans hbz.1
        obtain ⟨b1, b2, b3, b4, b5, l2, hr', k1, k2, k3, k4⟩ := bind_same hbind hg hfz
        have hleaf := HL.of_leaves _ _ _ hx
        have hst : ∃ s0, startSt F.e lv = some s0 := by unfold startSt; rw [k1]; simp only; rw [k2]; exact ⟨_, rfl⟩
        obtain ⟨s0, hst⟩ := hst
        obtain ⟨ts0, l0, rs0, t1, t2, t3, t4, t5, t6⟩ := startSt_some hst
        rw [k1] at t1
        simp only [Option.some.injEq, Prod.mk.injEq] at t1
        obtain ⟨rfl, rfl⟩ := t1
        rw [k2] at t2
        simp only [Option.some.injEq, Prod.mk.injEq] at t2
        obtain ⟨rfl, _⟩ := t2
        have hlook : ∀ k r, (k, r) ∈ ps → ∃ rt, look hr' k = some rt ∧ (M.root r).g.val = true ∧ RtFit ps (M.root r).rt rt ∧ ∀ t L fz, rt = .arr t L fz → (M.root r).rt = .arr t L fz := fun k r hkr => by
          have hk : k ∈ hr'.map (·.1) := by rw [k3, b3]; exact List.mem_map.2 ⟨_, hkr, rfl⟩
          obtain ⟨rt, hrt⟩ := look_keys.1 hk
          obtain ⟨r', q1, q2, q3, q4⟩ := k4 k rt hrt
          have : r' = r := by rw [← b1.src q1, ← b1.src hkr]
          subst this
          exact ⟨rt, hrt, q2, q3, q4⟩
        have hdead : ∀ q, q ∉ ps.map (·.1) → (s0.root q).live = false := fun q hq => by
          rw [t6]
          cases hl : look hr' q with
          | none => rfl
          | some rt => exact absurd (by rw [← b3, ← k3]; exact look_key hl) hq
        have hov : Over ps M s0 := ⟨b1, fun k r hkr hl => by
          obtain ⟨rt, q1, q2, q3, _⟩ := hlook k r hkr
          rw [t6, q1]; exact ⟨q2, q3⟩, fun q hq hl => by rw [hdead q hq] at hl; cases hl⟩
        have hall : ∀ k r, (k, r) ∈ ps → (s0.root k).live = true := fun k r hkr => by
          obtain ⟨rt, q1, q2, q3, _⟩ := hlook k r hkr
          rw [t6, q1]
          refine live_iff.2 ⟨rfl, ?_⟩
          simp only
          generalize (M.root r).rt = y at q3
          cases y <;> cases rt <;> first | rfl | exact q3.elim
        have hz : ∀ k r, (k, r) ∈ ps → (s0.root k).live = true → ∀ t L fz, (s0.root k).rt = .arr t L fz → (M.root r).rt = .arr t L fz := fun k r hkr _ t L fz ht => by
          obtain ⟨rt, q1, q2, q3, q4⟩ := hlook k r hkr
          rw [t6, q1] at ht
          exact q4 t L fz ht
        have hheap0 := Over.heap_same p1.heap hov hz
        have hheap1 := Heap.owns hheap0
        obtain ⟨hi2, hfo2⟩ := p3.follow
        obtain ⟨hent, hcalls⟩ := hF.runs x s0 res l1 hs (by rw [hleaf]; exact hst) hfn hres hhs
        have hargs0 : ∀ t, t < F.e.ain.length → RelD β2 H2 S2 w (encD s0 (fun q => loc2 (srcBy ps q)) (s0.slot t)) (vals.getD t undef) := fun t ht => by
          rw [t4, List.getElem?_map]
          have htz : t < zs.length := by rw [← b4]; exact ht
          rw [List.getElem?_eq_getElem htz]
          simp only [Option.map_some, Option.getD_some]
          have hta : t < args.length := by rw [← hzlen]; exact htz
          obtain ⟨z1, z2⟩ := hzrel t args[t] zs[t] (List.getElem?_eq_getElem hta) (List.getElem?_eq_getElem htz)
          have u0 := hargs t args[t] (List.getElem?_eq_getElem hta)
          have u1 := z1 _ (RelD.step m2.ext m2.evo _ _ u0)
          have u2 := Gone.rel p2 hfo2 (fun q hq hk => by have := z2 q hq; omega) u1
          obtain ⟨c1, c2⟩ := b5 zs[t] (List.getElem_mem htz)
          exact hov.value (.inl ⟨c1, rfl, c2⟩) (Gone.refl Wr own0 n0 _ _ _ _) u2
        refine (hcalls _ β2 H2 S2 w Wr _ H2.length vals hheap1 (by rw [hlen, ← hzlen, b4]) hargs0).mono ?_
        rintro e w' ⟨v, locE, β', H', S', rfl, hE, hv, hgE, hfE⟩
        have hroot : ∀ q, (addUp s .tt (applyUp s M n F.e ps hs)).root q = match look (kept (hs.map fun x => (backName ps F.e.hin.length n x.1, renRt (backName ps F.e.hin.length n) x.2))) q with
            | some h => h
            | none => if q ∈ (F.e.hin.filter fun k => !(keyIn F.e.hout k.1) && !(memB F.e.ro k.1)).map (fun k => backName ps F.e.hin.length n k.1) then ⟨.ff, .gone⟩ else M.root q := fun q => by
          rw [addUp_root_tt]
          unfold applyUp
          rw [look_append]
          cases look (kept (hs.map fun x => (backName ps F.e.hin.length n x.1, renRt (backName ps F.e.hin.length n) x.2))) q with
          | some h => rfl
          | none =>
            simp only
            have hmap : ((F.e.hin.filter fun k => !(keyIn F.e.hout k.1) && !(memB F.e.ro k.1)).map fun k => (backName ps F.e.hin.length n k.1, (⟨.ff, .gone⟩ : HE))) = ((F.e.hin.filter fun k => !(keyIn F.e.hout k.1) && !(memB F.e.ro k.1)).map (fun k => backName ps F.e.hin.length n k.1)).map (fun r => (r, (⟨.ff, .gone⟩ : HE))) := by rw [List.map_map]; rfl
            rw [hmap, look_gone]
            by_cases hm : q ∈ (F.e.hin.filter fun k => !(keyIn F.e.hout k.1) && !(memB F.e.ro k.1)).map (fun k => backName ps F.e.hin.length n k.1)
            · rw [if_pos hm, if_pos hm]
            · rw [if_neg hm, if_neg hm]
              obtain ⟨_, ⟨y, hy⟩⟩ := hgrM
              unfold St.root
              rw [hy, fresh_append, look_append]
              cases look y q <;> rfl
        obtain ⟨loc', r1, r2, r3, r4⟩ := call_back (s' := addUp s .tt (applyUp s M n F.e ps hs)) p1.heap p4 hov b3 hall hz hdead hent (plugRs_keys hhs) hnd hsn hroot hE hgE hfE
        rw [hr]
        refine ⟨v, loc', β', H', S', rfl, ?_, r1, (m2.trans p2).trans r2, fun q hq hl => ?_⟩
        · show RelD β' H' S' w' (encD (addUp s .tt (applyUp s M n F.e ps hs)) loc' (asRes (res.map (renT (backName ps F.e.hin.length n))))) v
          rw [asRes_ren]
          exact encD_ren r3 _ _ (fun p hp => by obtain ⟨y, h1, h2⟩ := asRes_names hp; exact hrn y h1 p h2) hv
        · have hl : ((addUp s .tt (applyUp s M n F.e ps hs)).root q).live = true := hl
          have hlt : q < fr := by
            refine Classical.byContradiction fun hge => ?_
            have hge2 : fr + stride ≤ q := by
              refine Classical.byContradiction fun h2 => hq ⟨by omega, by omega⟩
            rw [addUp_root_tt] at hl
            cases hlk : look (applyUp s M n F.e ps hs) q with
            | some h =>
              have := hup _ (look_mem _ _ _ hlk)
              simp only at this
              omega
            | none =>
              rw [hlk] at hl
              have := hb.rootN hl
              omega
          obtain ⟨f1, f2, f3⟩ := r4 q (by omega) hl
          obtain ⟨f4, f5, f6⟩ := p3 q (by omega) f1
          obtain ⟨f7, f8, f9⟩ := m1.fol q hlt f4
          exact ⟨f7, f2.trans (f5.trans f8), (f9.trans f6).trans f3⟩
      · cases h
    · cases h
  · cases h

theorem callT_sound {a : Act} (hh : Heap s loc β H S w Wr own0 n0) (hsl : Slots s loc β H S w a) (hb : Below s fr) {args : List T} {vals : Array Value} (hlen : vals.size = args.length)
    (hargs : ∀ i x, args[i]? = some x → RelD β H S w (encD s loc x) (vals.getD i undef)) (hn : ∀ x ∈ args, ∀ q ∈ x.names, q < fr) {f : FuncId} {r : OpR} : ∀ (K : List Fun), (∀ F ∈ K, FunOk P F) → callT s fr f args K = some r → r.ok.val = true →
    (∀ (vals : Array Value) (w : World), (callFunc f vals).run P w = .ok (.enter f vals) w) ∧ Calls P f vals w fun e w' => ∃ v loc' β' H' S', e = .returned v ∧ RelD β' H' S' w' (encD (addUp s .tt r.up) loc' r.res) v ∧ Heap (addUp s .tt r.up) loc' β' H' S' w' Wr own0 n0 ∧ Gone Wr own0 n0 β H S w β' H' S' w' ∧
      Follow s loc (addUp s .tt r.up) loc' fr (fr + stride)
  | [], _, h, _ => by cases h
  | F :: K, hK, h, hok => by
    unfold callT at h
    cases hf : Nat.beq F.e.f f with
    | false =>
      rw [hf] at h
      exact callT_sound hh hsl hb hlen hargs hn K (fun F hF => hK F (.tail _ hF)) h hok
    | true =>
      rw [hf] at h
      have hfe := beq2 hf
      have h : (match applyEnt s fr F args with | some r => some r | none => callT s fr f args K) = some r := h
      split at h
      · rename_i r' hr
        injection h with h
        subst h
        subst hfe
        exact ⟨(hK F (.head _)).call, apply_sound (hK F (.head _)) hh hsl hb hlen hargs hn hr hok⟩
      · exact callT_sound hh hsl hb hlen hargs hn K (fun F hF => hK F (.tail _ hF)) h hok

theorem addUp_like {s1 s2 : St} (h : ∀ q, (s1.root q).like (s2.root q)) : ∀ (l : List (Nat × HE)) (q : Nat), ((addUp s1 .tt l).root q).like ((addUp s2 .tt l).root q)
  | [], q => h q
  | (r, e) :: l, q => by
    rw [addUp_cons, addUp_cons, root_keep, root_keep]
    split
    · exact HE.like.rfl _
    · exact addUp_like h l q

theorem look_force (s : St) (q : Nat) : ∀ l : List Nat, look (l.map fun r => (r, (⟨.tt, (s.root r).rt⟩ : HE))) q = if q ∈ l then some ⟨.tt, (s.root q).rt⟩ else none
  | [] => by simp [look]
  | r :: l => by
    rw [List.map_cons, look_cons, look_force s q l]
    by_cases h : r = q
    · subst h; simp
    · have : ¬ q = r := fun e => h e.symm
      simp [h, this]

theorem look_app {α : Type} (q : Nat) : ∀ (l m : List (Nat × α)), look (l ++ m) q = match look l q with | some x => some x | none => look m q
  | [], m => rfl
  | (r, x) :: l, m => by
    rw [List.cons_append, look_cons, look_cons, look_app q l m]
    split <;> rfl

theorem force_root (s : St) (l : List Nat) (q : Nat) : (force s l).root q = if q ∈ l then ⟨.tt, (s.root q).rt⟩ else s.root q := by
  unfold force
  show (look (_ ++ s.hp) q).getD _ = _
  rw [look_app, look_force]
  split
  · rename_i x h
    split at h
    · rename_i hm; rw [if_pos hm]; injection h with h; rw [← h]; rfl
    · cases h
  · rename_i h
    split at h
    · cases h
    · rename_i hm; rw [if_neg hm]; rfl

theorem guardsOf_val {s : St} : ∀ {l : List Nat}, (guardsOf s l).val = true → ∀ q ∈ l, (s.root q).g.val = true
  | [], _, q, hq => nomatch hq
  | r :: l, h, q, hq => by
    unfold guardsOf at h
    rw [G.and_val] at h
    obtain ⟨h1, h2⟩ := and2 h
    rcases List.mem_cons.1 hq with rfl | hq
    · exact h1
    · exact guardsOf_val h2 q hq

theorem callF_sound {a : Act} (hh : Heap s loc β H S w Wr own0 n0) (hsl : Slots s loc β H S w a) (hb : Below s fr) {args : List T} {vals : Array Value} (hlen : vals.size = args.length)
    (hargs : ∀ i x, args[i]? = some x → RelD β H S w (encD s loc x) (vals.getD i undef)) (hn : ∀ x ∈ args, ∀ q ∈ x.names, q < fr) {f : FuncId} {r : OpR} (K : List Fun) (hK : ∀ F ∈ K, FunOk P F) (l : List Nat) (h : callF s fr f args K l = some r) (hok : r.ok.val = true) :
    (∀ (vals : Array Value) (w : World), (callFunc f vals).run P w = .ok (.enter f vals) w) ∧ Calls P f vals w fun e w' => ∃ v loc' β' H' S', e = .returned v ∧ RelD β' H' S' w' (encD (addUp s .tt r.up) loc' r.res) v ∧ Heap (addUp s .tt r.up) loc' β' H' S' w' Wr own0 n0 ∧ Gone Wr own0 n0 β H S w β' H' S' w' ∧
      Follow s loc (addUp s .tt r.up) loc' fr (fr + stride) := by
  unfold callF at h
  split at h
  · rename_i r0 hr0
    injection h with h
    subst h
    rw [G.and_val] at hok
    obtain ⟨hg, hok0⟩ := and2 hok
    have hrt : ∀ q, ((force s l).root q).rt = (s.root q).rt := fun q => by rw [force_root]; split <;> rfl
    have hlike : ∀ q, ((force s l).root q).like (s.root q) := fun q => by
      rw [force_root]
      split
      · rename_i hm; exact .inr (.inr ⟨(guardsOf_val hg q hm).symm, rfl⟩)
      · exact HE.like.rfl _
    have hlike' : ∀ q, (s.root q).like ((force s l).root q) := fun q => by
      rw [force_root]
      split
      · rename_i hm; exact .inr (.inr ⟨guardsOf_val hg q hm, rfl⟩)
      · exact HE.like.rfl _
    have hb' : Below (force s l) fr := fun hi => ⟨(hb hi).slots, fun q h1 h2 => by rw [(hlike q).live]; exact (hb hi).roots q h1 h2, fun q ty x hx => (hb hi).vars q ty x (by rw [← hrt]; exact hx)⟩
    obtain ⟨k1, k2⟩ := callT_sound (P := P) (Heap.congr hlike hh) (a := a) (fun t => by
      have := hsl t
      rw [← encD_congr hlike] at this
      exact this) hb' hlen (fun i x hx => by rw [encD_congr hlike]; exact hargs i x hx) hn K hK hr0 hok0
    refine ⟨k1, k2.mono ?_⟩
    rintro e w' ⟨v, loc', β', H', S', rfl, h1, h2, h3, h4⟩
    have hup := addUp_like hlike' r0.up
    refine ⟨v, loc', β', H', S', rfl, by rw [encD_congr hup]; exact h1, Heap.congr hup h2, h3, ?_⟩
    exact ((Follow.congr hlike fr (fr + stride)).trans h4).trans (Follow.congr hup fr (fr + stride))
  · cases h

theorem zip_map_get {α β γ : Type} (f : α → β → γ) (l : List α) (m : List β) (h : l.length = m.length) (i : Nat) (y : γ) (hy : ((l.zip m).map fun x => f x.1 x.2)[i]? = some y) : ∃ x t, l[i]? = some x ∧ m[i]? = some t ∧ y = f x t := by
  rw [List.getElem?_map] at hy
  obtain ⟨⟨x, t⟩, hz, rfl⟩ := Option.map_eq_some_iff.1 hy
  rw [List.getElem?_zip_eq_some] at hz
  exact ⟨x, t, hz.1, hz.2, rfl⟩

/-- Each operation does what 'evOper' says. -/
theorem opers_ok {K : List Fun} (hK : ∀ F ∈ K, FunOk P F) : OpersOk P K := fun o a s loc β H S w Wr own0 n0 fr r hh hsl hb hev hok => by
  have hop : evOp P fr o s = some r → DoneW P o a s loc β H S w Wr own0 n0 fr (fr + stride) (addUp s .tt r.up) r.res := fun h => Done.wp (evOp_sound hh (hb _) (Nat.le_refl _) (by unfold stride; omega) (fun x => evl_rel hsl x) h hok)
  unfold evOper at hev
  split at hev
  · rename_i c hoc
    split at hev
    · rename_i fop hcal
      split at hev
      · rename_i g f caps hfop
        split at hev
        · rename_i cs hcs
          split at hev
          · rename_i hsz
            split at hev
            · rename_i r' hr'
              injection hev with hev
              subst hev
              simp only [G.and_val, Bool.and_eq_true] at hok
              obtain ⟨hg, hrok⟩ := hok
              have hfn := need_rel hfop hg (evl_rel hsl fop)
              obtain ⟨hcsol, hsz⟩ := and2 hsz
              have hf1 : encD s loc (.fn f caps) = .v (.one (.fn f (encC s loc caps))) := by
                show (match (T.fn f caps).solid && ((T.fn f caps).isRow || Nat.beq (T.fn f caps).size 1) with | true => D.v (encV s loc (.fn f caps)) | false => .dead) = _
                simp only [T.solid, hcsol, T.isRow, T.size]; rfl
              rw [hf1] at hfn
              have hfn : RelC β H S w (.fn f (encC s loc caps)) (a.eval fop) := hfn
              simp only [RelC] at hfn
              obtain ⟨us, hu, hcaps⟩ := hfn
              obtain ⟨c1, c2, c3⟩ := capList_rel depth caps cs hcs hcsol us.toList hcaps
              have hnl : c.args.toList.length = c.argTypes.toList.length := beq2 hsz
              have hzl : ((c.args.toList.zip c.argTypes.toList).map (fun (x : Operand × TypeId) => asTy P x.2 (evl s x.1))).length = c.args.size := by
                rw [List.length_map, List.length_zip, ← hnl, Nat.min_self, Array.length_toList]
              have hlow : ∀ x : Operand, ∀ q ∈ (evl s x).names, q < fr := fun x q hq => by
                refine Classical.byContradiction fun hn => ?_
                exact evl_clean (hb (q + 1)) x q hq ⟨by omega, by omega⟩
              have hcall := callF_sound (fr := fr) (vals := c.args.map a.eval ++ us) hh hsl hb (args := (c.args.toList.zip c.argTypes.toList).map (fun (x : Operand × TypeId) => asTy P x.2 (evl s x.1)) ++ cs)
                (by rw [Array.size_append, Array.size_map, List.length_append, hzl, ← Array.length_toList (xs := us), c1])
                (fun i x hx => by
                  rw [List.getElem?_append] at hx
                  split at hx
                  · rename_i hi
                    rw [hzl] at hi
                    obtain ⟨y, t, h1, h2, rfl⟩ := zip_map_get (fun y t => asTy P t (evl s y)) _ _ hnl i x hx
                    have hv : (c.args.map a.eval ++ us).getD i undef = a.eval y := by
                      rw [Array.getD_eq_getD_getElem?, Array.getElem?_append_left (by rw [Array.size_map]; exact hi), Array.getElem?_map]
                      have : c.args[i]? = some y := by simpa using h1
                      rw [this]; rfl
                    rw [hv]
                    exact asTy_rel (evl_rel hsl y)
                  · rename_i hi
                    rw [hzl] at hi hx
                    have hiu : i - c.args.size < us.toList.length := by rw [c1]; exact (List.getElem?_eq_some_iff.1 hx).1
                    have hv : (c.args.map a.eval ++ us).getD i undef = us.toList[i - c.args.size] := by
                      rw [Array.getD_eq_getD_getElem?, Array.getElem?_append_right (by rw [Array.size_map]; omega), Array.size_map]
                      have : us[i - c.args.size]? = some us.toList[i - c.args.size] := by rw [← Array.getElem?_toList, List.getElem?_eq_getElem hiu]
                      rw [this]; rfl
                    rw [hv]
                    exact c2 _ x _ hx (List.getElem?_eq_getElem hiu))
                (fun x hx q hq => by
                  rcases List.mem_append.1 hx with hx | hx
                  · obtain ⟨⟨y, t⟩, hy, rfl⟩ := List.mem_map.1 hx
                    exact hlow y q (asTy_names q hq)
                  · have h1 := c3 x hx q hq
                    refine hlow fop q (need_names q ?_)
                    rw [hfop]; exact h1) K hK _ hr' hrok
              obtain ⟨hcf, hcalls⟩ := hcall
              intro KK Q hcont
              have hexec : (execOp a.eval o).run P w = .ok (.enter f (c.args.map a.eval ++ us)) w := by
                simp [execOp, hoc, resolve, hcal, hu, Deferred.ofValue, invoke, hcf]
              unfold Oper.wp
              rw [hexec]
              rw [Oper.upon_enter]
              refine hcalls.mono ?_
              rintro e w' ⟨v, loc', β', H', S', rfl, h1, h2, h3, h4⟩
              exact hcont v w' β' H' S' loc' h1 h2 h3 h4
            · cases hev
          · cases hev
        · cases hev
      · cases hev
    · exact hop hev
  · exact hop hev

end
end Go.Tm
