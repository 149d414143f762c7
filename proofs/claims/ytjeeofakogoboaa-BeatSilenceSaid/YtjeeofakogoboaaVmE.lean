/- The small machine's operations do what Go's do. It states nothing of any program. -/
import Derived.Test.YtjeeofakogoboaaVmD
import Derived.RowKit3
namespace Go.Vm
set_option linter.unusedVariables false
set_option linter.unusedSimpArgs false

/-- What it means that an operation came to that. -/
def OpRun (P : Program) (Wr : Nat → Prop) (S : Nat → Nat → Prop) (β : Nat → Option (Nat × Nat)) (hp : List Ob) (w : World) (ρv : Operand → Value) (o : Oper) (d : D) (hp' : List Ob) : Prop :=
  ∃ (nx : Next) (v : Value) (w' : World) (β' : Nat → Option (Nat × Nat)), (execOp ρv o).run P w = .ok nx w' ∧ (nx = .value v ∨ (nx = .skip ∧ v = undef)) ∧ RelD β' hp' S w' d v ∧ HRel β' hp' S w' Wr ∧
    Ext β hp S β' hp' S ∧ Evo Wr S w w'

section
variable {P : Program} {Wr : Nat → Prop} {S : Nat → Nat → Prop} {β : Nat → Option (Nat × Nat)} {hp hp' : List Ob} {w : World} {ρ : Operand → D} {ρv : Operand → Value} {o : Oper} {d : D} {os os' : List Or} {ps : List Prop}

theorem OpRun.value (h : HRel β hp S w Wr) {v : Value} (hrun : (execOp ρv o).run P w = .ok (.value v) w) (hd : RelD β hp S w d v) : OpRun P Wr S β hp w ρv o d hp :=
  ⟨.value v, v, w, β, hrun, .inl rfl, hd, h, Ext.refl _ _ _, Evo.refl _ _ _⟩

theorem relOne {c : C} {u : Value} : RelD β hp S w (one c) u ↔ RelC β hp S w c u := Iff.rfl

theorem rel_int {k : IntKind} {n : Int} {u : Value} (h : RelD β hp S w (.v (.one (.sc (.int k n)))) u) : u = .int k n := by
  have h' : RelC β hp S w (.sc (.int k n)) u := h
  simp only [RelC, RelP] at h'; exact h'.1
theorem rel_bool {b : Bool} {u : Value} (h : RelD β hp S w (.v (.one (.sc (.bool b)))) u) : u = .bool b := by
  have h' : RelC β hp S w (.sc (.bool b)) u := h
  simp only [RelC, RelP] at h'; exact h'.1
theorem rel_sc {v : Value} {u : Value} (h : RelD β hp S w (.v (.one (.sc v))) u) : u = v := by
  have h' : RelC β hp S w (.sc v) u := h
  simp only [RelC, RelP] at h'; exact h'.1
theorem mk_int (k : IntKind) (n : Int) : RelD β hp S w (vInt k n) (.int k n) := by
  show RelC β hp S w _ _; simp only [RelC, RelP]; exact ⟨True.intro, rfl⟩
theorem mk_bool (b : Bool) : RelD β hp S w (vBool b) (.bool b) := by
  show RelC β hp S w _ _; simp only [RelC, RelP]; exact ⟨True.intro, rfl⟩
theorem mk_sc {v : Value} (h : v.oneCell' = true) : RelD β hp S w (one (.sc v)) v := by
  show RelC β hp S w _ _; simp only [RelC, RelP]; exact ⟨True.intro, h⟩

theorem op_move (h : HRel β hp S w Wr) (hρ : ∀ x, RelD β hp S w (ρ x) (ρv x)) {a : Operand} (ho : o.op = .move a ∨ o.op = .assign a) (hop : opx P o ρ hp os = some (d, hp', os', ps)) : OpRun P Wr S β hp w ρv o d hp' := by
  unfold opx at hop
  rcases ho with ho | ho
  · rw [ho] at hop
    simp only [Option.some.injEq, Prod.mk.injEq] at hop
    obtain ⟨rfl, rfl, rfl, rfl⟩ := hop
    exact OpRun.value h (v := ρv a) (by simp [execOp, ho]) (hρ a)
  · rw [ho] at hop
    simp only [Option.some.injEq, Prod.mk.injEq] at hop
    obtain ⟨rfl, rfl, rfl, rfl⟩ := hop
    exact OpRun.value h (v := ρv a) (by simp [execOp, ho]) (hρ a)

theorem op_pick (h : HRel β hp S w Wr) (hρ : ∀ x, RelD β hp S w (ρ x) (ρv x)) {c a b : Operand} (ho : o.op = .pick c a b) (hop : opx P o ρ hp os = some (d, hp', os', ps)) (hps : ∀ p ∈ ps, p) : OpRun P Wr S β hp w ρv o d hp' := by
  unfold opx at hop
  rw [ho] at hop
  simp only at hop
  split at hop
  · rename_i t os1 v hc
    simp only [Option.some.injEq, Prod.mk.injEq] at hop
    obtain ⟨rfl, rfl, rfl, rfl⟩ := hop
    have hv : v = t := hps _ (by simp)
    subst hv
    have hcv := rel_bool (hc ▸ hρ c)
    refine OpRun.value h (v := if v then ρv a else ρv b) (by simp [execOp, ho, hcv, asBool]) ?_
    cases v <;> simp [hρ]
  · cases hop

theorem op_box (h : HRel β hp S w Wr) (hf : Wr w.heap.size) (hρ : ∀ x, RelD β hp S w (ρ x) (ρv x)) {t : TypeId} {x : Operand} (ho : o.op = .box t x) (hop : opx P o ρ hp os = some (d, hp', os', ps)) : OpRun P Wr S β hp w ρv o d hp' := by
  unfold opx at hop
  rw [ho] at hop
  simp only at hop
  split at hop
  · rename_i v hx
    simp only [Option.some.injEq, Prod.mk.injEq] at hop
    obtain ⟨rfl, rfl, rfl, rfl⟩ := hop
    have hv : RelV β hp S w v (ρv x) := by have := hρ x; rw [hx] at this; exact this
    have hr := hv.cells
    have ha := h.alloc hf hr [] t 1 0 false (by omega) (fun hh => absurd rfl hh)
    simp only [List.append_nil, Array.toArray_toList] at ha
    refine ⟨.value (.pointer (some ⟨w.heap.size, 0, none⟩)), _, _, _, by simp [execOp, ho, Instr.box, newVar, newRow], .inl rfl, ?_, ha, ext_push _ _ _ _ _, Evo.alloc w _ h.imm⟩
    show RelC _ _ _ _ _ _
    simp only [RelC, RelP]
    refine ⟨⟨_, rfl⟩, by simp, fun sz ver' cs fz hH => ?_⟩
    simp only [List.getElem?_concat_length, Option.some.injEq, Ob.cells.injEq] at hH
    obtain ⟨rfl, rfl, rfl, rfl⟩ := hH
    exact ⟨Nat.le_refl _, fun _ => ⟨_, _, upd_same _ _ _, rfl⟩⟩
  · cases hop

theorem op_alloc (h : HRel β hp S w Wr) (hf : Wr w.heap.size) {t : TypeId} (ho : o.op = .alloc t) (hop : opx P o ρ hp os = some (d, hp', os', ps)) : OpRun P Wr S β hp w ρv o d hp' := by
  unfold opx at hop
  rw [ho] at hop
  simp only at hop
  split at hop
  · rename_i i hi
    split at hop
    · rename_i z hz
      split at hop
      · rename_i hl
        simp only [Option.some.injEq, Prod.mk.injEq] at hop
        obtain ⟨rfl, rfl, rfl, rfl⟩ := hop
        have hr := (RelV.lit (β := β) (H := hp) (S := S) (w := w) hl).cells
        have ha := h.alloc hf hr [] t 1 0 false (by omega) (fun hh => absurd rfl hh)
        simp only [List.append_nil, Array.toArray_toList] at ha
        refine ⟨.value (.pointer (some ⟨w.heap.size, 0, none⟩)), _, _, _, by simp [execOp, ho, Instr.alloc, zeroValue, typeInfo, hi, hz, newVar, newRow], .inl rfl, ?_, ha, ext_push _ _ _ _ _, Evo.alloc w _ h.imm⟩
        show RelC _ _ _ _ _ _
        simp only [RelC, RelP]
        refine ⟨⟨_, rfl⟩, by simp, fun sz ver' cs fz hH => ?_⟩
        simp only [List.getElem?_concat_length, Option.some.injEq, Ob.cells.injEq] at hH
        obtain ⟨rfl, rfl, rfl, rfl⟩ := hH
        exact ⟨Nat.le_refl _, fun _ => ⟨_, _, upd_same _ _ _, rfl⟩⟩
      · cases hop
    · cases hop
  · cases hop

theorem op_load (h : HRel β hp S w Wr) (hρ : ∀ x, RelD β hp S w (ρ x) (ρv x)) {t : TypeId} {a : Operand} (ho : o.op = .load t a) (hop : opx P o ρ hp os = some (d, hp', os', ps)) (hps : ∀ p ∈ ps, p) : OpRun P Wr S β hp w ρv o d hp' := by
  unfold opx at hop
  rw [ho] at hop
  simp only at hop
  split at hop
  · rename_i agg n id ver off ht ha
    split at hop
    · rename_i sz ver' cs fz hid
      split at hop
      · rename_i hver
        subst hver
        split at hop
        · rename_i v hw
          split at hop
          · rename_i hlen
            simp only [Option.some.injEq, Prod.mk.injEq] at hop
            obtain ⟨rfl, rfl, rfl, rfl⟩ := hop
            have hp0 : RelC β hp S w (.ptr id ver off) (ρv a) := by have := hρ a; rw [ha] at this; exact this
            simp only [RelC, RelP] at hp0
            obtain ⟨_, hlt, hs⟩ := hp0
            obtain ⟨_, hs⟩ := hs sz ver cs fz hid
            obtain ⟨b, oo, hb, hu⟩ := hs rfl
            obtain ⟨hsz, h'⟩ := h.cells id sz ver cs fz hid
            rcases h' with h' | ⟨b', o', arr, e, k1, k2, k3, k4, k5, k6⟩
            · rw [h'.1] at hb; cases hb
            rw [hb] at k1
            simp only [Option.some.injEq, Prod.mk.injEq] at k1
            obtain ⟨rfl, rfl⟩ := k1
            have hl : Lies β hp S w cs b oo := k5
            obtain ⟨u, h1, h2⟩ := run_loadVar_lies ht ((hl.drop off).take n) hlen hw
            exact OpRun.value h (v := u) (by simp [execOp, ho, hu, Instr.loadAt, Instr.sureAddr, h1]) h2
          · cases hop
        · cases hop
      · cases hop
    · cases hop
  · rename_i agg n cs off ht ha
    split at hop
    · rename_i new os1
      split at hop
      · rename_i v hw
        split at hop
        · rename_i hlen
          simp only [Option.some.injEq, Prod.mk.injEq] at hop
          obtain ⟨rfl, rfl, rfl, rfl⟩ := hop
          have hnew : (cs.drop off).take n = new := hps _ (by simp)
          have hp0 : RelC β hp S w (.loc cs off) (ρv a) := by have := hρ a; rw [ha] at this; exact this
          simp only [RelC, RelP] at hp0
          obtain ⟨b, oo, hu, hat⟩ := hp0
          obtain ⟨hl, _⟩ := hat.lies (β := β) (H := hp)
          have hl' := (hl.drop off).take n
          rw [hnew] at hl'
          obtain ⟨u, h1, h2⟩ := run_loadVar_lies ht hl' hlen hw
          exact OpRun.value h (v := u) (by simp [execOp, ho, hu, Instr.loadAt, Instr.sureAddr, h1]) h2
        · cases hop
      · cases hop
    · cases hop
  · cases hop

theorem op_store (h : HRel β hp S w Wr) (hρ : ∀ x, RelD β hp S w (ρ x) (ρv x)) {t : TypeId} {a x : Operand} (ho : o.op = .store t a x) (hop : opx P o ρ hp os = some (d, hp', os', ps)) : OpRun P Wr S β hp w ρv o d hp' := by
  unfold opx at hop
  rw [ho] at hop
  simp only at hop
  split at hop
  · rename_i id ver off v i ha hx hi
    split at hop
    · rename_i sz ver' cs hid
      split at hop
      · rename_i hc
        obtain ⟨rfl, hsize, hlen, hpl⟩ := hc
        simp only [Option.some.injEq, Prod.mk.injEq] at hop
        obtain ⟨rfl, rfl, rfl, rfl⟩ := hop
        have hp0 : RelC β hp S w (.ptr id ver off) (ρv a) := by have := hρ a; rw [ha] at this; exact this
        simp only [RelC, RelP] at hp0
        obtain ⟨_, hlt, hs⟩ := hp0
        obtain ⟨_, hs⟩ := hs sz ver cs false hid
        obtain ⟨b, oo, hb, hu⟩ := hs rfl
        have hv : RelV β hp S w v (ρv x) := by have := hρ x; rw [hx] at this; exact this
        have hr := hv.cells
        have hplv : ver ≠ 0 → ∀ c ∈ v.cells, plain c = true := fun hv0 => by
          rcases hpl with hpl | hpl
          · exact absurd hpl hv0
          · exact plains_mem.1 hpl
        obtain ⟨g1, g2, g3⟩ := h.store hid hb hlen hr hplv
        refine ⟨.skip, undef, _, β, ?_, .inr ⟨rfl, rfl⟩, trivial, g1, g2, g3⟩
        obtain ⟨hsz, h'⟩ := h.cells id sz ver cs false hid
        rcases h' with h' | ⟨b', o', arr, e, k1, k2, k3, k4, k5, k6⟩
        · rw [h'.1] at hb; cases hb
        rw [hb] at k1
        simp only [Option.some.injEq, Prod.mk.injEq] at k1
        obtain ⟨rfl, rfl⟩ := k1
        have hul : (ρv x).cells.toList.length = v.cells.length := hr.length
        have hst := run_storeCells_cells (P := P) b (oo + off) (ρv x).cells.toList 0 w (fun j hj => by simp [World.cell?, k2]; omega) (fun j hj => by simp [World.frozen?, k2])
          hr.all
        simp only [Nat.add_zero] at hst
        have hsz2 : (ρv x).cells.size = i.size := by rw [← hsize, ← hul]; simp
        simp [execOp, ho, hu, Instr.storeAt, Instr.sureAddr, storeVar, sizeOf, typeInfo, hi, hsz2, hst]
      · cases hop
    · cases hop
  · cases hop

theorem op_nilCheck (h : HRel β hp S w Wr) (hρ : ∀ x, RelD β hp S w (ρ x) (ρv x)) {x : Operand} (ho : o.op = .nilCheck x) (hop : opx P o ρ hp os = some (d, hp', os', ps)) (hps : ∀ p ∈ ps, p) : OpRun P Wr S β hp w ρv o d hp' := by
  unfold opx at hop
  rw [ho] at hop
  simp only at hop
  split at hop
  · rename_i id ver off hx
    split at hop
    · rename_i hid
      simp only [Option.some.injEq, Prod.mk.injEq] at hop
      obtain ⟨rfl, rfl, rfl, rfl⟩ := hop
      have hfit : (hp[id]?).all (·.fit ver) = true := hps _ (by simp)
      have hp0 : RelC β hp S w (.ptr id ver off) (ρv x) := by have := hρ x; rw [hx] at this; exact this
      have hp1 := hp0
      simp only [RelC, RelP] at hp1
      obtain ⟨_, hlt, hs⟩ := hp1
      rw [List.getElem?_eq_getElem hid] at hfit
      simp only [Option.all_some] at hfit
      cases hob : hp[id] with
      | gone => rw [hob] at hfit; simp [Ob.fit] at hfit
      | cells sz ver' cs fz =>
        rw [hob] at hfit
        simp only [Ob.fit, beq_iff_eq] at hfit
        obtain ⟨_, hs⟩ := hs sz ver' cs fz (by rw [List.getElem?_eq_getElem hid, hob])
        obtain ⟨b, oo, hb, hu⟩ := hs hfit.symm
        refine OpRun.value h (v := ρv x) ?_ (hρ x)
        simp [execOp, ho, hu]
    · cases hop
  · rename_i cs off hx
    simp only [Option.some.injEq, Prod.mk.injEq] at hop
    obtain ⟨rfl, rfl, rfl, rfl⟩ := hop
    have hp0 : RelC β hp S w (.loc cs off) (ρv x) := by have := hρ x; rw [hx] at this; exact this
    simp only [RelC, RelP] at hp0
    obtain ⟨b, oo, hu, _⟩ := hp0
    refine OpRun.value h (v := ρv x) ?_ (hρ x)
    simp [execOp, ho, hu]
  · cases hop

theorem op_extract (h : HRel β hp S w Wr) (hρ : ∀ x, RelD β hp S w (ρ x) (ρv x)) {a : Operand} {i : Nat} (ho : o.op = .extract a i) (hop : opx P o ρ hp os = some (d, hp', os', ps)) : OpRun P Wr S β hp w ρv o d hp' := by
  unfold opx at hop
  rw [ho] at hop
  simp only at hop
  split at hop
  · rename_i xs ha
    split at hop
    · rename_i x hx
      simp only [Option.some.injEq, Prod.mk.injEq] at hop
      obtain ⟨rfl, rfl, rfl, rfl⟩ := hop
      have h1 := hρ a
      rw [ha] at h1
      obtain ⟨us, hu, hr⟩ := h1
      have : ∀ {xs : List V} {us : List Value}, RelVs β hp S w xs us → ∀ (i : Nat) (x : V), xs[i]? = some x → ∃ u, us[i]? = some u ∧ RelV β hp S w x u := by
        intro xs
        induction xs with
        | nil => intro us _ i x hx; simp at hx
        | cons y ys ih =>
          intro us hr i x hx
          obtain ⟨u, us', rfl, h2, h3⟩ := hr
          cases i with
          | zero => simp at hx; subst hx; exact ⟨u, rfl, h2⟩
          | succ i => simpa using ih h3 i x (by simpa using hx)
      obtain ⟨u, hu2, hr2⟩ := this hr i x hx
      refine OpRun.value h (v := u) ?_ hr2
      have : us[i]? = some u := by simpa using hu2
      simp [execOp, ho, hu, Instr.extract, this]
    · cases hop
  · cases hop

end
end Go.Vm
