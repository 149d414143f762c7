/- The small machine's cuts and structs are Go's; all its operations together. It states nothing of any program. -/
import Derived.Test.YtjeeofakogoboaaVmJ
import Derived.Laws.Slices
namespace Go.Vm
set_option linter.unusedVariables false
set_option linter.unusedSimpArgs false

section
variable {P : Program} {Wr : Nat → Prop} {S : Nat → Nat → Prop} {β : Nat → Option (Nat × Nat)} {H : List Ob} {hp hp' : List Ob} {w w' : World} {ρ : Operand → D} {ρv : Operand → Value} {o : Oper} {d : D} {os os' : List Or} {ps : List Prop}

theorem intOf_rel {x : Operand} {n : Int} (hρ : ∀ x, RelD β hp S w (ρ x) (ρv x)) (h : intOf (ρ x) = some n) : ∃ k, ρv x = .int k n := by
  unfold intOf at h
  split at h
  · rename_i k n0 hx
    simp only [Option.some.injEq] at h
    subst h
    exact ⟨k, rel_int (hx ▸ hρ x)⟩
  · cases h

theorem run_sliceBound_in (k : IntKind) (i : Int) (y : Nat) (code : BoundsCode) (h0 : 0 ≤ i) (h1 : i ≤ y) : (Instr.sliceBound (.int k i) y code).run P w = .ok i.toNat w := by
  simp [Instr.sliceBound, asIntOf, h0, h1]

/-- The bounds of a cut of n elements with room for cap. -/
theorem bounds_sound (hρ : ∀ x, RelD β hp S w (ρ x) (ρv x)) {n cap : Nat} (hcap : n ≤ cap) {lo hi mx : Option Operand} {l h : Int} (hb : bounds n ρ lo hi mx = some (l, h, ps)) (hps : ∀ p ∈ ps, p) (isl : Bool) (hstr : mx = none ∨ True) :
    0 ≤ l ∧ l ≤ h ∧ h ≤ n ∧ ∃ m : Nat, h ≤ m ∧ m ≤ cap ∧ (Instr.sliceBounds isl n cap (lo.map ρv) (hi.map ρv) (mx.map ρv)).run P w = .ok (l.toNat, h.toNat, m) w ∧ (mx = none → m = cap) := by
  unfold bounds at hb
  split at hb
  · rename_i h1 h2 h3
    simp only [Option.some.injEq, Prod.mk.injEq] at hb
    obtain ⟨rfl, rfl, rfl⟩ := hb
    simp only [Option.map_eq_none_iff] at h1 h2 h3
    subst h1; subst h2; subst h3
    exact ⟨by omega, by omega, by omega, cap, by omega, by omega, by simp [Instr.sliceBounds], fun _ => rfl⟩
  · rename_i l0 h1 h2 h3
    simp only [Option.some.injEq, Prod.mk.injEq] at hb
    obtain ⟨rfl, rfl, rfl⟩ := hb
    simp only [Option.map_eq_none_iff] at h2 h3
    obtain ⟨x, rfl, hx⟩ := Option.map_eq_some_iff.1 h1
    subst h2; subst h3
    have e1 : 0 ≤ l0 := hps _ (.head _)
    have e2 : l0 ≤ n := hps _ (.tail _ (.head _))
    obtain ⟨k, hk⟩ := intOf_rel hρ hx
    refine ⟨e1, by omega, by omega, cap, by omega, by omega, ?_, fun _ => rfl⟩
    simp [Instr.sliceBounds, hk, run_sliceBound_in k l0 n _ e1 e2]
  · rename_i h0 h1 h2 h3
    simp only [Option.some.injEq, Prod.mk.injEq] at hb
    obtain ⟨rfl, rfl, rfl⟩ := hb
    simp only [Option.map_eq_none_iff] at h1 h3
    obtain ⟨x, rfl, hx⟩ := Option.map_eq_some_iff.1 h2
    subst h1; subst h3
    have e1 : 0 ≤ h0 := hps _ (.head _)
    have e2 : h0 ≤ n := hps _ (.tail _ (.head _))
    obtain ⟨k, hk⟩ := intOf_rel hρ hx
    refine ⟨by omega, e1, e2, cap, by omega, by omega, ?_, fun _ => rfl⟩
    simp [Instr.sliceBounds, hk, run_sliceBound_in k h0 cap _ e1 (by omega)]
  · rename_i l0 h0 h1 h2 h3
    simp only [Option.some.injEq, Prod.mk.injEq] at hb
    obtain ⟨rfl, rfl, rfl⟩ := hb
    simp only [Option.map_eq_none_iff] at h3
    obtain ⟨x, rfl, hx⟩ := Option.map_eq_some_iff.1 h1
    obtain ⟨y, rfl, hy⟩ := Option.map_eq_some_iff.1 h2
    subst h3
    have e1 : 0 ≤ l0 := hps _ (.head _)
    have e2 : l0 ≤ h0 := hps _ (.tail _ (.head _))
    have e3 : h0 ≤ n := hps _ (.tail _ (.tail _ (.head _)))
    obtain ⟨k, hk⟩ := intOf_rel hρ hx
    obtain ⟨k', hk'⟩ := intOf_rel hρ hy
    refine ⟨e1, e2, e3, cap, by omega, by omega, ?_, fun _ => rfl⟩
    simp [Instr.sliceBounds, hk, hk', run_sliceBound_in k' h0 cap _ (by omega) (by omega), run_sliceBound_in k l0 h0.toNat _ e1 (by omega)]
  · rename_i h0 m0 h1 h2 h3
    simp only [Option.some.injEq, Prod.mk.injEq] at hb
    obtain ⟨rfl, rfl, rfl⟩ := hb
    simp only [Option.map_eq_none_iff] at h1
    obtain ⟨y, rfl, hy⟩ := Option.map_eq_some_iff.1 h2
    obtain ⟨z, rfl, hz⟩ := Option.map_eq_some_iff.1 h3
    subst h1
    have e1 : 0 ≤ h0 := hps _ (.head _)
    have e2 : h0 ≤ m0 := hps _ (.tail _ (.head _))
    have e3 : m0 ≤ n := hps _ (.tail _ (.tail _ (.head _)))
    obtain ⟨k', hk'⟩ := intOf_rel hρ hy
    obtain ⟨k2, hk2⟩ := intOf_rel hρ hz
    refine ⟨by omega, e1, by omega, m0.toNat, by omega, by omega, ?_, fun hh => by cases hh⟩
    simp [Instr.sliceBounds, hk', hk2, run_sliceBound_in k2 m0 cap _ (by omega) (by omega), run_sliceBound_in k' h0 m0.toNat _ (by omega) (by omega)]
  · rename_i l0 h0 m0 h1 h2 h3
    simp only [Option.some.injEq, Prod.mk.injEq] at hb
    obtain ⟨rfl, rfl, rfl⟩ := hb
    obtain ⟨x, rfl, hx⟩ := Option.map_eq_some_iff.1 h1
    obtain ⟨y, rfl, hy⟩ := Option.map_eq_some_iff.1 h2
    obtain ⟨z, rfl, hz⟩ := Option.map_eq_some_iff.1 h3
    have e1 : 0 ≤ l0 := hps _ (.head _)
    have e2 : l0 ≤ h0 := hps _ (.tail _ (.head _))
    have e3 : h0 ≤ m0 := hps _ (.tail _ (.tail _ (.head _)))
    have e4 : m0 ≤ n := hps _ (.tail _ (.tail _ (.tail _ (.head _))))
    obtain ⟨k, hk⟩ := intOf_rel hρ hx
    obtain ⟨k', hk'⟩ := intOf_rel hρ hy
    obtain ⟨k2, hk2⟩ := intOf_rel hρ hz
    refine ⟨e1, e2, by omega, m0.toNat, by omega, by omega, ?_, fun hh => by cases hh⟩
    simp [Instr.sliceBounds, hk, hk', hk2, run_sliceBound_in k2 m0 cap _ (by omega) (by omega), run_sliceBound_in k' h0 m0.toNat _ (by omega) (by omega), run_sliceBound_in k l0 h0.toNat _ (by omega) (by omega)]
  · cases hb

theorem op_slice (h : HRel β hp S w Wr) (hρ : ∀ x, RelD β hp S w (ρ x) (ρv x)) {t : TypeId} {x : Operand} {lo hi mx : Option Operand} (ho : o.op = .slice t x lo hi mx) (hop : opx P o ρ hp os = some (d, hp', os', ps)) (hps : ∀ p ∈ ps, p) : OpRun P Wr S β hp w ρv o d hp' := by
  unfold opx at hop
  rw [ho] at hop
  simp only at hop
  split at hop
  · rename_i e c ht hx
    have hrc : RelC β hp S w c (ρv x) := rel_one (hρ x) hx
    split at hop
    · rename_i ie hie
      have hexec : ∀ (a : Option Addr) (n cap l hh m : Nat), ρv x = .slice a n cap → (Instr.sliceBounds true n cap (lo.map ρv) (hi.map ρv) (mx.map ρv)).run P w = .ok (l, hh, m) w →
          (execOp ρv o).run P w = .ok (.value (.slice (if m = l then a else a.map (·.add (l * ie.size))) (hh - l) (m - l))) w := fun a n cap l hh m hu hb => by
        simp [execOp, ho, Instr.sliceAt, Instr.slice, run_underlying ht, hu, hb, sizeOf, typeInfo, hie]
      split at hop
      · rename_i hsz
        split at hop
        · -- no room
          rename_i hnr
          split at hop
          · rename_i nc hsl
            simp only [Option.some.injEq, Prod.mk.injEq] at hop
            obtain ⟨rfl, rfl, rfl, rfl⟩ := hop
            obtain ⟨n, cs⟩ := nc
            obtain ⟨a, cap, hu, _⟩ := slOf_sound h hsl hrc
            unfold noRoom at hnr
            split at hnr
            · rename_i k1 k2 h2 h3
              obtain ⟨y, rfl, hy⟩ := Option.map_eq_some_iff.1 h2
              obtain ⟨z, rfl, hz⟩ := Option.map_eq_some_iff.1 h3
              have hk1 := rel_int (hy ▸ hρ y)
              have hk2 := rel_int (hz ▸ hρ z)
              have hb : (Instr.sliceBounds true n cap (Option.map ρv (none : Option Operand)) ((some y).map ρv) ((some z).map ρv)).run P w = .ok (0, 0, 0) w := by
                simp [Instr.sliceBounds, hk1, hk2, run_sliceBound_in _ 0 cap _ (by omega) (by omega), run_sliceBound_in _ 0 0 _ (by omega) (by omega)]
              have hr := hexec a n cap 0 0 0 hu hb
              simp only [if_true, Nat.sub_self] at hr
              exact ⟨.value (.slice a 0 0), _, w, _, hr, .inl rfl, relAr_nil (S := S) a, h.allocNil ie.size 1 false hsz, ext_push _ _ _ _ _, Evo.refl _ _ _⟩
            · cases hnr
          · cases hop
        · split at hop
          · rename_i n cs
            split at hop
            · rename_i l hh ps0 hb
              simp only [Option.some.injEq, Prod.mk.injEq] at hop
              obtain ⟨rfl, rfl, rfl, rfl⟩ := hop
              simp only [RelC, RelP] at hrc
              obtain ⟨a, cap, hu, hcap, h3⟩ := hrc
              obtain ⟨e1, e2, e3, m, e4, e5, hrun, _⟩ := bounds_sound (P := P) hρ hcap hb hps true (.inr trivial)
              have hr := hexec a n cap l.toNat hh.toNat m hu hrun
              refine OpRun.value h hr ?_
              show RelC _ _ _ _ _ _
              simp only [RelC, RelP]
              refine ⟨_, _, by rw [show (hh - l).toNat = hh.toNat - l.toNat by omega], by omega, ?_⟩
              rcases h3 with ⟨hn, hcs⟩ | ⟨b, oo, ha, hat⟩
              · exact .inl ⟨by omega, by rw [hcs]; simp⟩
              · by_cases h0 : hh.toNat - l.toNat = 0
                · exact .inl ⟨by omega, by rw [show (hh - l).toNat = 0 by omega]; simp⟩
                · have hml : m ≠ l.toNat := by omega
                  refine .inr ⟨b, oo + l.toNat * ie.size, by rw [if_neg hml, ha]; simp [Addr.add_mid], ?_⟩
                  obtain ⟨g1, g2⟩ := hat.liesP
                  refine RelAt.of_liesP ((g1.drop _).take _) (fun j hj => ?_)
                  rw [List.length_take, List.length_drop] at hj
                  have := g2 (l.toNat * ie.size + j) (by omega)
                  rwa [show oo + (l.toNat * ie.size + j) = oo + l.toNat * ie.size + j by omega] at this
            · cases hop
          · rename_i id ver off n
            split at hop
            · rename_i sz ver' cs fz l hh ps0 hid hb
              split at hop
              · rename_i hvs
                obtain ⟨rfl, rfl⟩ := hvs
                simp only [Option.some.injEq, Prod.mk.injEq] at hop
                obtain ⟨rfl, rfl, rfl, rfl⟩ := hop
                have hrc' := hrc
                simp only [RelC, RelP] at hrc'
                obtain ⟨_, hlt, hs⟩ := hrc'
                obtain ⟨_, hs⟩ := hs _ ver cs fz hid
                obtain ⟨hlen, hs⟩ := hs rfl
                have hpos : ∀ l0 n0 : Nat, l0 + n0 ≤ n → off + l0 * ie.size + n0 * ie.size ≤ cs.length := fun l0 n0 hln => by
                  have : (l0 + n0) * ie.size ≤ n * ie.size := Nat.mul_le_mul_right _ hln
                  rw [Nat.add_mul] at this; omega
                rcases hs with ⟨hn, a, hu⟩ | ⟨b, oo, cap, e', arr, hβ, hu, hcap, hbk, hroom⟩
                · subst hn
                  obtain ⟨e1, e2, e3, m, e4, e5, hrun, _⟩ := bounds_sound (P := P) hρ (Nat.le_refl 0) hb hps true (.inr trivial)
                  have hr := hexec a 0 0 l.toNat hh.toNat m hu hrun
                  have hl0 : l = 0 := by omega
                  have hh0 : hh = 0 := by omega
                  have hm0 : m = 0 := by omega
                  subst hl0; subst hh0; subst hm0
                  simp only [Int.toNat_zero, if_true, Nat.sub_self] at hr
                  refine OpRun.value h hr ?_
                  show RelC _ _ _ _ _ _
                  simp only [RelC, RelP]
                  refine ⟨⟨_, _, _, rfl⟩, hlt, fun sz2 ver2 cs2 fz2 hid2 => ?_⟩
                  rw [hid] at hid2
                  simp only [Option.some.injEq, Ob.cells.injEq] at hid2
                  obtain ⟨rfl, rfl, rfl, rfl⟩ := hid2
                  exact ⟨Nat.le_refl _, fun _ => ⟨by simpa using hlen, .inl ⟨by simp, a, rfl⟩⟩⟩
                · obtain ⟨e1, e2, e3, m, e4, e5, hrun, _⟩ := bounds_sound (P := P) hρ hcap hb hps true (.inr trivial)
                  have hr := hexec _ n cap l.toNat hh.toNat m hu hrun
                  refine OpRun.value h hr ?_
                  show RelC _ _ _ _ _ _
                  simp only [RelC, RelP]
                  refine ⟨⟨_, _, _, rfl⟩, hlt, fun sz2 ver2 cs2 fz2 hid2 => ?_⟩
                  rw [hid] at hid2
                  simp only [Option.some.injEq, Ob.cells.injEq] at hid2
                  obtain ⟨rfl, rfl, rfl, rfl⟩ := hid2
                  have hlenh := hpos l.toNat (hh - l).toNat (by omega)
                  by_cases hml : m = l.toNat
                  · exact ⟨Nat.le_refl _, fun _ => ⟨hlenh, .inl ⟨by omega, _, by rw [show hh.toNat - l.toNat = 0 by omega, show m - l.toNat = 0 by omega]⟩⟩⟩
                  refine ⟨Nat.le_refl _, fun _ => ⟨hlenh, .inr ⟨b, oo, m - l.toNat, e', arr, hβ, ?_, by omega, hbk, ?_⟩⟩⟩
                  · rw [if_neg hml, show (hh - l).toNat = hh.toNat - l.toNat by omega]; simp [Addr.add_mid, Nat.add_assoc]
                  · have : m * ie.size ≤ cap * ie.size := Nat.mul_le_mul_right _ e5
                    have h2 : (m - l.toNat) * ie.size = m * ie.size - l.toNat * ie.size := Nat.sub_mul _ _ _
                    have h3 : l.toNat * ie.size ≤ m * ie.size := Nat.mul_le_mul_right _ (by omega)
                    omega
              · cases hop
            · cases hop
          · cases hop
      · cases hop
    · cases hop
  · rename_i s ht hx
    split at hop
    · rename_i l hh ps0 hb
      simp only [Option.some.injEq, Prod.mk.injEq] at hop
      obtain ⟨rfl, rfl, rfl, rfl⟩ := hop
      have hu := rel_sc (hx ▸ hρ x)
      obtain ⟨e1, e2, e3, m, e4, e5, hrun, hm⟩ := bounds_sound (P := P) hρ (Nat.le_refl s.size) hb hps false (.inl rfl)
      refine OpRun.value h (v := .string (s.extract l.toNat hh.toNat)) ?_ (mk_sc rfl)
      simp only [Option.map_none] at hrun
      simp [execOp, ho, Instr.sliceAt, Instr.slice, run_underlying ht, hu, hrun]
    · cases hop
  · cases hop

theorem places_sound (w : World) (fs : Array Field) (hall : fs.all (fun f => (P.info? f.type).isSome) = true) :
    (fs.mapM fun f => do pure (f.offset, ← sizeOf f.type) : Sem (Array (Nat × Nat))).run P w = .ok (fs.map fun f => (f.offset, ((P.info? f.type).map (·.size)).getD 0)) w := by
  rw [Array.mapM_eq_mapM_toList]
  have key : ∀ (l : List Field), (∀ f ∈ l, (P.info? f.type).isSome = true) → (l.mapM fun f => do pure (f.offset, ← sizeOf f.type) : Sem (List (Nat × Nat))).run P w = .ok (l.map fun f => (f.offset, ((P.info? f.type).map (·.size)).getD 0)) w := by
    intro l
    induction l with
    | nil => intro _; rfl
    | cons f l ih =>
      intro hl
      obtain ⟨i, hi⟩ := Option.isSome_iff_exists.1 (hl f (.head _))
      have hrest := ih (fun g hg => hl g (.tail _ hg))
      simp only [List.mapM_cons, Sem.run_bind, sizeOf, typeInfo, run_program, Result.andThen_ok, hi, Sem.run_pure] at hrest ⊢
      rw [hrest]
      simp [hi]
  have h2 := key fs.toList (fun f hf => by rw [Array.all_eq_true_iff_forall_mem] at hall; exact hall f (by simpa using hf))
  rw [Sem.run_map]
  refine (congrArg (fun r => Result.andThen r _) h2).trans ?_
  show Result.ok _ w = _
  congr 1
  apply Array.ext'
  simp

theorem op_build (h : HRel β hp S w Wr) (hρ : ∀ x, RelD β hp S w (ρ x) (ρv x)) {t : TypeId} {parts : Array (Nat × Operand)} (ho : o.op = .build t parts) (hop : opx P o ρ hp os = some (d, hp', os', ps)) : OpRun P Wr S β hp w ρv o d hp' := by
  unfold opx at hop
  rw [ho] at hop
  simp only at hop
  have hparts : (parts.map fun (x : Nat × Operand) => (x.1, ρv x.2)).toList = parts.toList.map fun (i, x) => (i, ρv x) := by simp
  split at hop
  · rename_i i fs hi ht
    split at hop
    · rename_i z hz
      split at hop
      · rename_i hc
        obtain ⟨hl, hall⟩ := hc
        simp only [Option.map_eq_some_iff, Prod.mk.injEq] at hop
        obtain ⟨cs, hfill, rfl, rfl, rfl, rfl⟩ := hop
        have hr0 : RelL β hp S w (litV z).cells z.cells.toList := (RelV.lit hl).cells
        obtain ⟨us, g1, g2⟩ := fill_sound (ρ := ρ) (ρv := ρv) _ parts.toList _ cs z.cells hρ hr0 hfill
        have hpl := places_sound (P := P) w fs hall
        refine OpRun.value h (v := .agg us) ?_ ⟨us, rfl, g2⟩
        have hplace : (fun (i : Nat) => (fs.map fun (f : Field) => (f.offset, ((P.info? f.type).map (·.size)).getD 0))[i]?) = (fun (i : Nat) => (fs[i]?).map fun (f : Field) => (f.offset, ((P.info? f.type).map (·.size)).getD 0)) := by
          funext i; simp
        simp only [execOp, ho, Instr.build, Sem.run_bind, zeroValue, typeInfo, run_program, Result.andThen_ok, hi, hz, Sem.run_pure, run_underlying ht, hpl, hplace, hparts, g1]
      · cases hop
    · cases hop
  · rename_i i n e hi ht
    split at hop
    · rename_i z ie hz hie
      split at hop
      · rename_i hl
        simp only [Option.map_eq_some_iff, Prod.mk.injEq] at hop
        obtain ⟨cs, hfill, rfl, rfl, rfl, rfl⟩ := hop
        have hr0 : RelL β hp S w (litV z).cells z.cells.toList := (RelV.lit hl).cells
        obtain ⟨us, g1, g2⟩ := fill_sound (ρ := ρ) (ρv := ρv) _ parts.toList _ cs z.cells hρ hr0 hfill
        refine OpRun.value h (v := .agg us) ?_ ⟨us, rfl, g2⟩
        simp only [execOp, ho, Instr.build, Sem.run_bind, zeroValue, sizeOf, typeInfo, run_program, Result.andThen_ok, hi, hie, hz, Sem.run_pure, run_underlying ht, hparts, g1]
      · cases hop
    · cases hop
  · cases hop

/-- All operations without a call of a function. -/
theorem opx_sound (h : HRel β hp S w Wr) (hf : ∀ b, w.heap.size ≤ b → Wr b) (hρ : ∀ x, RelD β hp S w (ρ x) (ρv x)) (hop : opx P o ρ hp os = some (d, hp', os', ps)) (hps : ∀ p ∈ ps, p) : OpRun P Wr S β hp w ρv o d hp' := by
  cases ho : o.op with
  | move a => exact op_move h hρ (.inl ho) hop
  | assign a => exact op_move h hρ (.inr ho) hop
  | pick c a b => exact op_pick h hρ ho hop hps
  | box t x => exact op_box h (hf _ (Nat.le_refl _)) hρ ho hop
  | alloc t => exact op_alloc h (hf _ (Nat.le_refl _)) ho hop
  | build t parts => exact op_build h hρ ho hop
  | buildSlice t len parts => exact op_buildSlice h hf hρ ho hop
  | load t a => exact op_load h hρ ho hop hps
  | store t a x => exact op_store h hρ ho hop
  | nilCheck x => exact op_nilCheck h hρ ho hop hps
  | binOp op t a b yt => exact op_binOp h hρ ho hop hps
  | unOp op t a => exact op_unOp h hρ ho hop
  | convert src dst a => exact op_convert h hρ ho hop
  | makeFunc fn first caps =>
    cases fn with
    | func f => exact op_makeFunc h hρ ho hop
    | _ => unfold opx at hop; rw [ho] at hop; cases hop
  | makeSlice t l c => exact op_makeSlice h hf hρ ho hop hps
  | slice t x lo hi mx => exact op_slice h hρ ho hop hps
  | fieldAddr s a f => exact op_fieldAddr h hρ ho hop hps
  | field s a f => exact op_field h hρ ho hop
  | indexAddr t a i => exact op_indexAddr h hρ ho hop hps
  | extract a i => exact op_extract h hρ ho hop
  | call c =>
    cases hc : c.callee with
    | builtin b =>
      cases b with
      | append => exact op_append h hf hρ ho hc hop hps
      | len => exact op_len h hρ ho hc hop
      | min => exact op_minmax h hρ ho (.inl hc) hop
      | max => exact op_minmax h hρ ho (.inr hc) hop
      | _ => unfold opx at hop; rw [ho] at hop; simp only [hc] at hop; cases hop
    | value f => unfold opx at hop; rw [ho] at hop; simp only [hc] at hop; cases hop
    | invoke r m => unfold opx at hop; rw [ho] at hop; simp only [hc] at hop; cases hop
  | _ => unfold opx at hop; rw [ho] at hop; cases hop

end
end Go.Vm
