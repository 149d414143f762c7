/- The small machine's addresses, lengths and structs are Go's. It states nothing of any program. -/
import Derived.Test.YtjeeofakogoboaaVmF
namespace Go.Vm
set_option linter.unusedVariables false
set_option linter.unusedSimpArgs false

section
variable {P : Program} {Wr : Nat → Prop} {S : Nat → Nat → Prop} {β : Nat → Option (Nat × Nat)} {hp hp' : List Ob} {w : World} {ρ : Operand → D} {ρv : Operand → Value} {o : Oper} {d : D} {os os' : List Or} {ps : List Prop}

theorem rel_one {c : C} {u : Value} (hρ : RelD β hp S w d u) (h : d = .v (.one c)) : RelC β hp S w c u := by subst h; exact hρ

theorem ptr_add {id ver off k : Nat} {a : Addr} (h : RelC β hp S w (.ptr id ver off) (.pointer (some a))) : RelC β hp S w (.ptr id ver (off + k)) (.pointer (some (a.add k))) := by
  simp only [RelC, RelP] at h ⊢
  obtain ⟨_, hlt, hs⟩ := h
  refine ⟨⟨_, rfl⟩, hlt, fun sz ver' cs fz hid => ?_⟩
  obtain ⟨hle, hs⟩ := hs sz ver' cs fz hid
  refine ⟨hle, fun e => ?_⟩
  obtain ⟨b, oo, hb, hu⟩ := hs e
  simp only [Value.pointer.injEq, Option.some.injEq] at hu
  subst hu
  exact ⟨b, oo, hb, by rw [Addr.add_mid, Nat.add_assoc]⟩

theorem op_fieldAddr (h : HRel β hp S w Wr) (hρ : ∀ x, RelD β hp S w (ρ x) (ρv x)) {s : TypeId} {a : Operand} {f : Nat} (ho : o.op = .fieldAddr s a f) (hop : opx P o ρ hp os = some (d, hp', os', ps)) (hps : ∀ p ∈ ps, p) : OpRun P Wr S β hp w ρv o d hp' := by
  unfold opx at hop
  rw [ho] at hop
  simp only at hop
  have hfield : ∀ ff, fieldOf P s f = some ff → ∃ fs, P.underlying s = some (.struct fs) ∧ fs[f]? = some ff := by
    intro ff hff
    unfold fieldOf at hff
    split at hff
    · rename_i fs hfs; exact ⟨fs, hfs, hff⟩
    · cases hff
  split at hop
  · rename_i ff id ver off hff ha
    obtain ⟨fs, hfs, hfi⟩ := hfield _ hff
    split at hop
    · rename_i i hi
      split at hop
      · rename_i hpos
        obtain ⟨hsz, hfit⟩ := hpos
        simp only [Option.some.injEq, Prod.mk.injEq] at hop
        obtain ⟨rfl, rfl, rfl, rfl⟩ := hop
        have hp0 : RelC β hp S w (.ptr id ver off) (ρv a) := rel_one (hρ a) ha
        obtain ⟨b, oo, sz, cs, fz, hid, hb, hu⟩ := ptr_fit hp0 hfit
        rw [hu] at hp0
        refine OpRun.value h (v := .pointer (some ((⟨b, oo + off, none⟩ : Addr).add ff.offset))) ?_ (ptr_add hp0)
        have hne : ¬ i.size = 0 := by omega
        simp [execOp, ho, hu, Instr.fieldAt, run_underlying hfs, hfi, Instr.sureAddr, fieldPlace, sizeOf, typeInfo, hi, hne]
      · cases hop
    · cases hop
  · rename_i ff cs off hff ha
    obtain ⟨fs, hfs, hfi⟩ := hfield _ hff
    split at hop
    · rename_i i hi
      split at hop
      · rename_i hsz
        simp only [Option.some.injEq, Prod.mk.injEq] at hop
        obtain ⟨rfl, rfl, rfl, rfl⟩ := hop
        have hp0 : RelC β hp S w (.loc cs off) (ρv a) := rel_one (hρ a) ha
        simp only [RelC, RelP] at hp0
        obtain ⟨b, oo, hu, hat⟩ := hp0
        refine OpRun.value h (v := .pointer (some ((⟨b, oo + off, none⟩ : Addr).add ff.offset))) ?_ ?_
        · have hne : ¬ i.size = 0 := by omega
          simp [execOp, ho, hu, Instr.fieldAt, run_underlying hfs, hfi, Instr.sureAddr, fieldPlace, sizeOf, typeInfo, hi, hne]
        · show RelC _ _ _ _ _ _
          simp only [RelC, RelP]
          exact ⟨b, oo, by rw [Addr.add_mid, Nat.add_assoc], hat⟩
      · cases hop
    · cases hop
  · cases hop

theorem op_field (h : HRel β hp S w Wr) (hρ : ∀ x, RelD β hp S w (ρ x) (ρv x)) {s : TypeId} {a : Operand} {f : Nat} (ho : o.op = .field s a f) (hop : opx P o ρ hp os = some (d, hp', os', ps)) : OpRun P Wr S β hp w ρv o d hp' := by
  unfold opx at hop
  rw [ho] at hop
  simp only at hop
  split at hop
  · rename_i ff cs hff ha
    have hfield : ∃ fs, P.underlying s = some (.struct fs) ∧ fs[f]? = some ff := by
      unfold fieldOf at hff
      split at hff
      · rename_i fs hfs; exact ⟨fs, hfs, hff⟩
      · cases hff
    obtain ⟨fs, hfs, hfi⟩ := hfield
    split at hop
    · rename_i agg n ht
      split at hop
      · rename_i v hw
        split at hop
        · rename_i hlen
          simp only [Option.some.injEq, Prod.mk.injEq] at hop
          obtain ⟨rfl, rfl, rfl, rfl⟩ := hop
          have h1 := hρ a
          rw [ha] at h1
          obtain ⟨us, hu, hr⟩ := (h1 : RelV β hp S w (.agg cs) (ρv a))
          have hr' := (hr.drop ff.offset).take n
          have hv := RelV.wrap hr' hw
          have hp := run_part (P := P) (us := us.toList) (off := ff.offset) ht (fun hagg => by subst hagg; obtain ⟨c, hc⟩ := wrap_one hw; rw [hr'.length, hc]; rfl) w
          refine OpRun.value h (v := valOf agg ((us.toList.drop ff.offset).take n)) ?_ (by unfold valOf; exact hv)
          simp only [Array.toArray_toList] at hp
          simp [execOp, ho, hu, Instr.field, run_underlying hfs, hfi, asAgg, hp]
        · cases hop
      · cases hop
    · cases hop
  · cases hop

theorem op_indexAddr (h : HRel β hp S w Wr) (hρ : ∀ x, RelD β hp S w (ρ x) (ρv x)) {t : TypeId} {a i : Operand} (ho : o.op = .indexAddr t a i) (hop : opx P o ρ hp os = some (d, hp', os', ps)) (hps : ∀ p ∈ ps, p) : OpRun P Wr S β hp w ρv o d hp' := by
  unfold opx at hop
  rw [ho] at hop
  simp only at hop
  split at hop
  · rename_i e n cs k i0 ht ha hi
    split at hop
    · rename_i ie hie
      simp only [Option.some.injEq, Prod.mk.injEq] at hop
      obtain ⟨rfl, rfl, rfl, rfl⟩ := hop
      obtain ⟨h0, h1⟩ : 0 ≤ i0 ∧ i0 < n := hps _ (by simp)
      have hp0 : RelC β hp S w (.sl n cs) (ρv a) := rel_one (hρ a) ha
      have hui := rel_int (hi ▸ hρ i)
      simp only [RelC, RelP] at hp0
      obtain ⟨ad, cap, hu, hcap, hat⟩ := hp0
      rcases hat with hat | ⟨b, oo, rfl, hat⟩
      · omega
      refine OpRun.value h (v := .pointer (some ((⟨b, oo, none⟩ : Addr).add (i0.toNat * ie.size)))) ?_ ?_
      · simp [execOp, ho, hu, hui, Instr.indexAt, asIntOf, run_underlying ht, h0, h1, sizeOf, typeInfo, hie]
      · show RelC _ _ _ _ _ _
        simp only [RelC, RelP]
        exact ⟨b, oo, by rw [Addr.add_mid], hat⟩
    · cases hop
  · rename_i e id ver off n k i0 ht ha hi
    split at hop
    · rename_i ie sz ver' cs fz hie hid
      split at hop
      · rename_i hc
        obtain ⟨rfl, rfl⟩ := hc
        simp only [Option.some.injEq, Prod.mk.injEq] at hop
        obtain ⟨rfl, rfl, rfl, rfl⟩ := hop
        obtain ⟨h0, h1⟩ : 0 ≤ i0 ∧ i0 < n := hps _ (by simp)
        have hp0 : RelC β hp S w (.ar id ver off n) (ρv a) := rel_one (hρ a) ha
        have hui := rel_int (hi ▸ hρ i)
        simp only [RelC, RelP] at hp0
        obtain ⟨_, hlt, hs⟩ := hp0
        obtain ⟨_, hs⟩ := hs _ ver cs fz hid
        obtain ⟨hlen, hs⟩ := hs rfl
        rcases hs with ⟨hn, _⟩ | ⟨b, oo, cap, e', arr, hb, hu, hcap, hbk, _⟩
        · omega
        refine OpRun.value h (v := .pointer (some ((⟨b, oo + off, none⟩ : Addr).add (i0.toNat * ie.size)))) ?_ ?_
        · simp [execOp, ho, hu, hui, Instr.indexAt, asIntOf, run_underlying ht, h0, h1, sizeOf, typeInfo, hie]
        · show RelC _ _ _ _ _ _
          simp only [RelC, RelP]
          refine ⟨⟨_, rfl⟩, hlt, fun sz2 ver2 cs2 fz2 hid2 => ?_⟩
          rw [hid] at hid2
          simp only [Option.some.injEq, Ob.cells.injEq] at hid2
          obtain ⟨rfl, rfl, rfl, rfl⟩ := hid2
          exact ⟨Nat.le_refl _, fun _ => ⟨b, oo, hb, by rw [Addr.add_mid, Nat.add_assoc]⟩⟩
      · cases hop
    · cases hop
  · rename_i n e id ver off k i0 ht ha hi
    split at hop
    · rename_i ie j os1 hie
      split at hop
      · rename_i hfit
        simp only [Option.some.injEq, Prod.mk.injEq] at hop
        obtain ⟨rfl, rfl, rfl, rfl⟩ := hop
        have h0 : i0 = (j : Int) := hps _ (by simp)
        have h1 : j < n := hps _ (by simp)
        subst h0
        have hp0 : RelC β hp S w (.ptr id ver off) (ρv a) := rel_one (hρ a) ha
        have hui := rel_int (hi ▸ hρ i)
        obtain ⟨b, oo, sz, cs, fz, hid, hb, hu⟩ := ptr_fit hp0 hfit
        rw [hu] at hp0
        refine OpRun.value h (v := .pointer (some ((⟨b, oo + off, none⟩ : Addr).add (j * ie.size)))) ?_ (ptr_add hp0)
        have hj : (j : Int) < (n : Int) := by omega
        simp [execOp, ho, hu, hui, Instr.indexAt, asIntOf, run_underlying ht, sizeOf, typeInfo, hie, Instr.sureAddr, h1]
      · cases hop
    · cases hop
  · cases hop

theorem relL_mapM {ρ : Operand → D} {ρv : Operand → Value} (hρ : ∀ x, RelD β hp S w (ρ x) (ρv x)) : ∀ (l : List Operand) (cs : List C), ((l.map ρ).mapM fun | .v (.one c) => some c | _ => none) = some cs → RelL β hp S w cs (l.map ρv)
  | [], cs, h => by simp at h; subst h; simp [RelL]
  | x :: l, cs, h => by
    simp only [List.map_cons, List.mapM_cons, Option.bind_eq_bind, Option.bind_eq_some_iff, Option.pure_def, Option.some.injEq] at h
    obtain ⟨c, hc, cs', hcs, rfl⟩ := h
    simp only [List.map_cons, RelL]
    refine ⟨ρv x, l.map ρv, rfl, ?_, relL_mapM hρ l cs' hcs⟩
    split at hc
    · rename_i c' hx
      simp only [Option.some.injEq] at hc
      subst hc
      exact rel_one (hρ x) hx
    · cases hc

theorem op_makeFunc (h : HRel β hp S w Wr) (hρ : ∀ x, RelD β hp S w (ρ x) (ρv x)) {f : FuncId} {first caps : Array Operand} (ho : o.op = .makeFunc (.func f) first caps) (hop : opx P o ρ hp os = some (d, hp', os', ps)) : OpRun P Wr S β hp w ρv o d hp' := by
  unfold opx at hop
  rw [ho] at hop
  simp only at hop
  split at hop
  · rename_i h0
    split at hop
    · rename_i cs hcs
      simp only [Option.some.injEq, Prod.mk.injEq] at hop
      obtain ⟨rfl, rfl, rfl, rfl⟩ := hop
      have hr := relL_mapM hρ caps.toList cs hcs
      have hf0 : first = #[] := Array.eq_empty_of_size_eq_zero h0
      refine OpRun.value h (v := .func (.func f) #[] (caps.map ρv)) (by simp [execOp, ho, Instr.makeFunc, hf0]) ?_
      show RelC _ _ _ _ _ _
      simp only [RelC, RelP]
      exact ⟨_, rfl, by simpa using hr⟩
    · cases hop
  · cases hop

theorem map_two {α γ : Type} {f : α → γ} : ∀ {l : List α} {x y : γ}, l.map f = [x, y] → ∃ a b, l = [a, b] ∧ f a = x ∧ f b = y
  | [], _, _, h => by simp at h
  | [a], _, _, h => by simp at h
  | [a, b], _, _, h => by simp at h; exact ⟨a, b, rfl, h.1, h.2⟩
  | a :: b :: c :: l, _, _, h => by simp at h
theorem map_one {α γ : Type} {f : α → γ} : ∀ {l : List α} {x : γ}, l.map f = [x] → ∃ a, l = [a] ∧ f a = x
  | [], _, h => by simp at h
  | [a], _, h => by simp at h; exact ⟨a, rfl, h⟩
  | a :: b :: l, _, h => by simp at h

theorem toList_one {α : Type} {a : Array α} {x : α} (h : a.toList = [x]) : a = #[x] := by rw [← Array.toArray_toList (xs := a), h]
theorem toList_two {α : Type} {a : Array α} {x y : α} (h : a.toList = [x, y]) : a = #[x, y] := by rw [← Array.toArray_toList (xs := a), h]

theorem op_len (h : HRel β hp S w Wr) (hρ : ∀ x, RelD β hp S w (ρ x) (ρv x)) {c : Call} (ho : o.op = .call c) (hc : c.callee = .builtin .len) (hop : opx P o ρ hp os = some (d, hp', os', ps)) : OpRun P Wr S β hp w ρv o d hp' := by
  unfold opx at hop
  rw [ho] at hop
  simp only [hc] at hop
  split at hop
  · rename_i n cs e hargs hts
    simp only [Option.some.injEq, Prod.mk.injEq] at hop
    obtain ⟨rfl, rfl, rfl, rfl⟩ := hop
    obtain ⟨a, ha, hx⟩ := map_one hargs
    obtain ⟨t, ht, hxt⟩ := map_one hts
    have hp0 : RelC β hp S w (.sl n cs) (ρv a) := rel_one (hρ a) hx
    simp only [RelC, RelP] at hp0
    obtain ⟨ad, cap, hu, _⟩ := hp0
    refine OpRun.value h (v := .int .i64 n) ?_ (mk_int _ _)
    simp [execOp, ho, resolve, hc, toList_one ha, toList_one ht, invoke, builtin, Builtin.len_, run_underlying hxt, hu, goInt]
  · rename_i e hargs hts
    simp only [Option.some.injEq, Prod.mk.injEq] at hop
    obtain ⟨rfl, rfl, rfl, rfl⟩ := hop
    obtain ⟨a, ha, hx⟩ := map_one hargs
    obtain ⟨t, ht, hxt⟩ := map_one hts
    have hu := rel_sc (hx ▸ hρ a)
    refine OpRun.value h (v := .int .i64 0) ?_ (mk_int _ _)
    simp [execOp, ho, resolve, hc, toList_one ha, toList_one ht, invoke, builtin, Builtin.len_, run_underlying hxt, hu, goInt]
  · rename_i id ver off n e hargs hts
    split at hop
    · rename_i hfit
      simp only [Option.some.injEq, Prod.mk.injEq] at hop
      obtain ⟨rfl, rfl, rfl, rfl⟩ := hop
      obtain ⟨a, ha, hx⟩ := map_one hargs
      obtain ⟨t, ht, hxt⟩ := map_one hts
      have hp0 : RelC β hp S w (.ar id ver off n) (ρv a) := rel_one (hρ a) hx
      simp only [RelC, RelP] at hp0
      obtain ⟨_, hlt, hs⟩ := hp0
      rw [List.getElem?_eq_getElem hlt] at hfit
      simp only [Option.any_some] at hfit
      cases hob : hp[id] with
      | gone => rw [hob] at hfit; simp [Ob.fit] at hfit
      | cells sz ver' cs fz =>
        rw [hob] at hfit
        simp only [Ob.fit, beq_iff_eq] at hfit
        obtain ⟨_, hs⟩ := hs sz ver' cs fz (by rw [List.getElem?_eq_getElem hlt, hob])
        obtain ⟨_, hs⟩ := hs hfit.symm
        have hu : ∃ ad cap, ρv a = .slice ad n cap := by
          rcases hs with ⟨hn, ad, hu⟩ | ⟨b, oo, cap, e', arr, hb, hu, _⟩
          · exact ⟨ad, 0, by rw [hu, hn]⟩
          · exact ⟨_, cap, hu⟩
        obtain ⟨ad, cap, hu⟩ := hu
        refine OpRun.value h (v := .int .i64 n) ?_ (mk_int _ _)
        simp [execOp, ho, resolve, hc, toList_one ha, toList_one ht, invoke, builtin, Builtin.len_, run_underlying hxt, hu, goInt]
    · cases hop
  · rename_i s hargs hts
    simp only [Option.some.injEq, Prod.mk.injEq] at hop
    obtain ⟨rfl, rfl, rfl, rfl⟩ := hop
    obtain ⟨a, ha, hx⟩ := map_one hargs
    obtain ⟨t, ht, hxt⟩ := map_one hts
    have hu := rel_sc (hx ▸ hρ a)
    refine OpRun.value h (v := .int .i64 s.size) ?_ (mk_int _ _)
    simp [execOp, ho, resolve, hc, toList_one ha, toList_one ht, invoke, builtin, Builtin.len_, run_underlying hxt, hu, goInt]
  · cases hop

theorem op_minmax (h : HRel β hp S w Wr) (hρ : ∀ x, RelD β hp S w (ρ x) (ρv x)) {c : Call} (ho : o.op = .call c) (hc : c.callee = .builtin .min ∨ c.callee = .builtin .max) (hop : opx P o ρ hp os = some (d, hp', os', ps)) : OpRun P Wr S β hp w ρv o d hp' := by
  unfold opx at hop
  rw [ho] at hop
  rcases hc with hc | hc
  · simp only [hc] at hop
    split at hop
    · rename_i k a0 k' b0 hargs
      simp only [Option.some.injEq, Prod.mk.injEq] at hop
      obtain ⟨rfl, rfl, rfl, rfl⟩ := hop
      obtain ⟨a, b, ha, hx, hy⟩ := map_two hargs
      have hu := rel_int (hx ▸ hρ a)
      have hv := rel_int (hy ▸ hρ b)
      refine OpRun.value h (v := .int k (if b0 < a0 then b0 else a0)) ?_ (mk_int _ _)
      simp [execOp, ho, resolve, hc, toList_two ha, invoke, builtin, Builtin.min_, Builtin.min2, hu, hv]
    · cases hop
  · simp only [hc] at hop
    split at hop
    · rename_i k a0 k' b0 hargs
      simp only [Option.some.injEq, Prod.mk.injEq] at hop
      obtain ⟨rfl, rfl, rfl, rfl⟩ := hop
      obtain ⟨a, b, ha, hx, hy⟩ := map_two hargs
      have hu := rel_int (hx ▸ hρ a)
      have hv := rel_int (hy ▸ hρ b)
      refine OpRun.value h (v := .int k (if a0 < b0 then b0 else a0)) ?_ (mk_int _ _)
      simp [execOp, ho, resolve, hc, toList_two ha, invoke, builtin, Builtin.max_, Builtin.max2, hu, hv]
    · cases hop

end
end Go.Vm
