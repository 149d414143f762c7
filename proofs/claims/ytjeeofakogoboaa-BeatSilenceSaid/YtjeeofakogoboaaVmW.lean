/- The small machine runs regions that draw their order. It states nothing of any program. -/
import Derived.Test.YtjeeofakogoboaaVmV
namespace Go.Vm
set_option linter.unusedVariables false
set_option linter.unusedSimpArgs false

abbrev OutD := Option (List D × List Ob × List Tell × List Prop × List Ent)

def moreD (x : Ent) : OutD → OutD
  | some (sl, hp, ts, ps, T) => some (sl, hp, ts, x.ps ++ ps, x :: T)
  | none => none

/-- The operations of a region that draws, in the text's order. -/
def regionD (P : Program) (m : Nat) (ops : Array Oper) : List Oper → List D → List Ob → List Tell → OutD
  | [], sl, hp, ts => some (sl, hp, ts, [], [])
  | o :: rest, sl, hp, ts => match ts with
    | .plan hide wr base grow full :: ts => match stepV P ops o (viewS ops o sl) (viewH ⟨hide, wr, base, grow, full⟩ hp) ts with
      | some (d, hp2, ts', ps, wrs) =>
        if (wrs.all fun id => wr.contains id) && (decide (base ≤ hp.length) && (decide (hp2.length = base + grow) && ((grow == 0 || decide (base = hp.length)) &&
            (((full && decide (base = hp.length)) || (allDs (fun i => decide (i < base)) (viewS ops o sl) && allObs (fun i => decide (i < base)) (viewH ⟨hide, wr, base, grow, full⟩ hp))) &&
            ((hide.isEmpty || (allD (fun i => !hide.contains i) d && allObs (fun i => !hide.contains i) hp2)) && plOk m ⟨hide, wr, base, grow, full⟩))))) then
          moreD ⟨o, ⟨hide, wr, base, grow, full⟩, ts, ts', ps⟩ (regionD P m ops rest (putD sl o.dst d) (over wr 0 hp2 hp) ts')
        else none
      | none => none
    | _ => none

/-- May they go in any order? -/
def drawOk (ops : Array Oper) (T : List Ent) : Bool :=
  let cl := closeB ops.toList []
  (List.range ops.size).all fun j => (match ops[j]? with | some o => (bound o).all fun k => decide (k < j) | none => true) && (List.range j).all fun i => pairOk ops T cl i j

theorem regionD_runs {P : Program} {m : Nat} {ops : Array Oper} : ∀ (l : List Oper) (k : Nat) (T0 : List Ent) (sl sl' : List D) (hp hp' : List Ob) (ts ts' : List Tell) (ps : List Prop) (T : List Ent), (∀ j, l[j]? = ops[k + j]?) → T0.length = k →
    regionD P m ops l sl hp ts = some (sl', hp', ts', ps, T) → (∀ p ∈ ps, p) →
    Runs P ops (T0 ++ T) (List.range' k l.length) sl hp sl' hp' ∧ T.length = l.length ∧ ∀ (i : Nat) x, T[i]? = some x → ops[k + i]? = some x.o ∧ plOk m x.pl = true ∧ ∀ p ∈ x.ps, p
  | [], k, T0, sl, sl', hp, hp', ts, ts', ps, T, hl, hk, h, hps => by
    simp only [regionD, Option.some.injEq, Prod.mk.injEq] at h
    obtain ⟨rfl, rfl, _, _, rfl⟩ := h
    exact ⟨⟨rfl, rfl⟩, rfl, fun i x hx => by simp at hx⟩
  | o :: l, k, T0, sl, sl', hp, hp', ts, ts', ps, T, hl, hk, h, hps => by
    unfold regionD at h
    split at h
    · rename_i hide wr base grow full ts1
      split at h
      · rename_i d hp2 ts2 ps2 wrs hst
        split at h
        · rename_i hc
          unfold moreD at h
          split at h
          · rename_i sl3 hp3 ts3 ps3 T3 hrest
            simp only [Option.some.injEq, Prod.mk.injEq] at h
            obtain ⟨rfl, rfl, rfl, rfl, rfl⟩ := h
            simp only [Bool.and_eq_true, Bool.or_eq_true, decide_eq_true_eq, beq_iff_eq, List.all_eq_true, List.isEmpty_iff] at hc
            obtain ⟨c1, c2, c3, c4, c5, c6, c7⟩ := hc
            have ho : ops[k]? = some o := by simpa using (hl 0).symm
            obtain ⟨r1, r2, r3⟩ := regionD_runs l (k + 1) (T0 ++ [⟨o, ⟨hide, wr, base, grow, full⟩, ts1, ts2, ps2⟩]) _ sl3 _ hp3 ts2 ts3 ps3 T3
              (fun j => by have := hl (j + 1); simp only [List.getElem?_cons_succ] at this; rw [this]; congr 1; omega) (by simp [hk]) hrest (fun p hp => hps p (List.mem_append_right _ hp))
            refine ⟨?_, by simp [r2], fun i x hx => ?_⟩
            · rw [List.length_cons, List.range'_succ]
              refine ⟨⟨o, ⟨hide, wr, base, grow, full⟩, ts1, ts2, ps2⟩, _, _, by rw [← hk]; simp, ⟨d, hp2, wrs, hst, c1, c2, c3, c4, c5, c6, rfl, rfl⟩, ?_⟩
              simpa using r1
            · cases i with
              | zero =>
                simp at hx
                subst hx
                exact ⟨by simpa using ho, c7, fun p hp => hps p (List.mem_append_left _ hp)⟩
              | succ i =>
                have := r3 i x (by simpa using hx)
                rw [show k + (i + 1) = k + 1 + i by omega]
                exact this
          · cases h
        · cases h
      · cases h
    · cases h

theorem evo_drawn {Wr : Nat → Prop} {S : Nat → Nat → Prop} {w : World} : Evo Wr S w { w with drawn := w.drawn + 1 } :=
  ⟨rfl, rfl, rfl, Nat.le_refl _, fun _ _ _ => rfl, fun _ _ _ => rfl, fun _ arr _ h => ⟨arr, h, rfl⟩⟩

theorem HRel.drawn {Wr : Nat → Prop} {hp : List Ob} {β : Nat → Option (Nat × Nat)} {S : Nat → Nat → Prop} {w : World} (h : HRel β hp S w Wr) : HRel β hp S { w with drawn := w.drawn + 1 } Wr := by
  refine ⟨fun id sz ver cs fz hid => ?_, h.inj, h.imm⟩
  obtain ⟨k0, k⟩ := h.cells id sz ver cs fz hid
  refine ⟨k0, ?_⟩
  rcases k with k | ⟨b, o', arr, e, k1, k2, k3, k4, k5, k6⟩
  · exact .inl k
  · refine .inr ⟨b, o', arr, e, k1, k2, k3, k4, fun j c hj => ?_, k6⟩
    obtain ⟨u, u1, u2⟩ := k5 j c hj
    exact ⟨u, u1, RelC.step (Ext.refl _ _ _) (evo_drawn (Wr := Wr)) c u u2⟩

theorem SR.drawn {Wr : Nat → Prop} {m : Nat} {sl : List D} {hp : List Ob} {β : Nat → Option (Nat × Nat)} {S : Nat → Nat → Prop} {a : Act} {w : World} (h : SR Wr m sl hp β S a w) : SR Wr m sl hp β S a { w with drawn := w.drawn + 1 } :=
  ⟨RelDs.step (Ext.refl _ _ _) (evo_drawn (Wr := Wr)) _ _ h.slots, h.heap.drawn, h.fresh, h.base, h.defers⟩

theorem draw_sound {P : Program} {Wr : Nat → Prop} {m id : Nat} {ops : Array Oper} {sl sl' : List D} {hp hp' : List Ob} {ts ts' : List Tell} {ps : List Prop} {T : List Ent} {β : Nat → Option (Nat × Nat)} {S : Nat → Nat → Prop} {a : Act} {w : World} {Q : Exit → Act → World → Prop}
    (hmx : P.follows .mixedOrders = true) (hs : SR Wr m sl hp β S a w) (h : regionD P m ops ops.toList sl hp ts = some (sl', hp', ts', ps, T)) (hd : drawOk ops T = true) (hps : ∀ p ∈ ps, p)
    (hQ : ∀ β' S' a' w', SR Wr m sl' hp' β' S' a' w' → Gone Wr m hp β S w hp' β' S' w' → Q .normal a' w') : (Code.region id ops true).wp P Q a w := by
  obtain ⟨r1, r2, r3⟩ := regionD_runs ops.toList 0 [] sl sl' hp hp' ts ts' ps T (fun j => by simp) rfl h hps
  simp only [drawOk, List.all_eq_true, List.mem_range, Bool.and_eq_true] at hd
  have hcl := closeB_reach (ops := ops) ops.toList [] (fun j => by simp) (fun j b hj => by simp at hj)
  refine wp_region_any hmx (anyRuns (T := T) (cl := closeB ops.toList []) (fun i x hx => by simpa using r3 i x hx) hcl (fun j o ho k hk => ?_) ops.size (List.range' 0 ops.size) _ sl hp β S a _ (by simp) (by simp) (fun i => ?_) ?_ ?_ ?_ (by simpa using r1) hs.drawn ?_)
  · have := (hd j (Array.getElem?_eq_some_iff.1 ho).1).1
    rw [ho] at this
    simp only [List.all_eq_true, decide_eq_true_eq] at this
    exact this k hk
  · rw [List.mem_range'_1]
    constructor
    · intro hi
      have hlt : i < (Array.replicate ops.size false).size := by simp; omega
      exact ⟨by omega, by rw [Array.getD_eq_getD_getElem?, Array.getElem?_eq_getElem hlt]; simp⟩
    · intro hi
      omega
  · exact List.pairwise_lt_range'
  · rw [List.pairwise_iff_getElem]
    intro i j hi hj hij
    simp only [List.length_range'] at hi hj
    simp only [List.getElem_range', Nat.zero_add, Nat.one_mul]
    exact (hd j hj).2 i hij
  · intro j o ho hlj
    exfalso
    have hlt : j < (Array.replicate ops.size false).size := by simpa using (Array.getElem?_eq_some_iff.1 ho).1
    rw [Array.getD_eq_getD_getElem?, Array.getElem?_eq_getElem hlt] at hlj
    simp at hlj
  · intro β' S' a' w' hs' hg'
    exact hQ β' S' a' w' hs' ((⟨ExtB.refl _ _ _ hs.base, evo_drawn, fun _ _ hh => .inl hh⟩ : Gone Wr m hp β S w hp β S { w with drawn := w.drawn + 1 }).trans hg')

end Go.Vm
