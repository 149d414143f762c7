/- The small machine's literals, makes and cuts are Go's. It states nothing of any program. -/
import Derived.Test.YtjeeofakogoboaaVmI
import Derived.IntWalk
namespace Go.Vm
set_option linter.unusedVariables false
set_option linter.unusedSimpArgs false

section
variable {P : Program} {Wr : Nat → Prop} {S : Nat → Nat → Prop} {β : Nat → Option (Nat × Nat)} {H : List Ob} {hp hp' : List Ob} {w w' : World} {ρ : Operand → D} {ρv : Operand → Value} {o : Oper} {d : D} {os os' : List Or} {ps : List Prop}

theorem foldl_size (off : Nat) : ∀ (vs : List Value) (i : Nat) (cells : Array Value), ((vs.zipIdx i).foldl (fun (cs : Array Value) (x : Value × Nat) => cs.setIfInBounds (off + x.2) x.1) cells).size = cells.size
  | [], i, cells => rfl
  | v :: vs, i, cells => by
    simp only [List.zipIdx_cons, List.foldl_cons]
    rw [foldl_size off vs (i + 1) _]
    simp

theorem foldl_get (off : Nat) : ∀ (vs : List Value) (i : Nat) (cells : Array Value) (k : Nat), ((vs.zipIdx i).foldl (fun (cs : Array Value) (x : Value × Nat) => cs.setIfInBounds (off + x.2) x.1) cells)[k]? =
    if off + i ≤ k ∧ k < off + i + vs.length ∧ k < cells.size then vs[k - (off + i)]? else cells[k]?
  | [], i, cells, k => by
    simp only [List.zipIdx_nil, List.foldl_nil, List.length_nil, Nat.add_zero]
    rw [if_neg (by omega)]
  | v :: vs, i, cells, k => by
    simp only [List.zipIdx_cons, List.foldl_cons]
    rw [foldl_get off vs (i + 1) _ k]
    have hset : (cells.setIfInBounds (off + i) v)[k]? = if off + i = k then (if off + i < cells.size then some v else none) else cells[k]? := Array.getElem?_setIfInBounds
    rw [hset]
    simp only [Array.size_setIfInBounds, List.length_cons]
    by_cases h1 : k = off + i
    · subst h1
      have n1 : ¬ (off + (i + 1) ≤ off + i ∧ off + i < off + (i + 1) + vs.length ∧ off + i < cells.size) := by omega
      rw [if_neg n1]
      simp only [if_true]
      by_cases h2 : off + i < cells.size
      · have n2 : off + i ≤ off + i ∧ off + i < off + i + (vs.length + 1) ∧ off + i < cells.size := by omega
        rw [if_pos n2, if_pos h2]; simp
      · have n2 : ¬ (off + i ≤ off + i ∧ off + i < off + i + (vs.length + 1) ∧ off + i < cells.size) := by omega
        rw [if_neg n2, if_neg h2, Array.getElem?_eq_none (by omega)]
    · have n0 : ¬ (off + i = k) := fun e => h1 e.symm
      simp only [n0, if_false]
      by_cases h2 : off + i ≤ k ∧ k < off + i + (vs.length + 1) ∧ k < cells.size
      · have n2 : off + (i + 1) ≤ k ∧ k < off + (i + 1) + vs.length ∧ k < cells.size := by omega
        rw [if_pos h2, if_pos n2, show k - (off + i) = (k - (off + (i + 1))) + 1 by omega]; simp
      · have n2 : ¬ (off + (i + 1) ≤ k ∧ k < off + (i + 1) + vs.length ∧ k < cells.size) := by omega
        rw [if_neg h2, if_neg n2]

theorem fill_sound (place : Nat → Option (Nat × Nat)) : ∀ (parts : List (Nat × Operand)) (cs cs' : List C) (us : Array Value) (_ : ∀ x, RelD β hp S w (ρ x) (ρv x)), RelL β hp S w cs us.toList →
    fillC place cs (parts.map fun (i, x) => (i, ρ x)) = some cs' → ∃ us', Instr.fill place us (parts.map fun (i, x) => (i, ρv x)) = some us' ∧ RelL β hp S w cs' us'.toList
  | [], cs, cs', us, hρ, hr, h => by
    simp only [List.map_nil, fillC, Option.some.injEq] at h
    subst h
    exact ⟨us, rfl, hr⟩
  | (i, x) :: parts, cs, cs', us, hρ, hr, h => by
    simp only [List.map_cons] at h ⊢
    unfold fillC at h
    split at h
    · rename_i heq; cases heq
    · rename_i i' v rest heq
      simp only [List.cons.injEq, Prod.mk.injEq] at heq
      obtain ⟨⟨rfl, hx⟩, rfl⟩ := heq
      split at h
      · rename_i off size hpl
        split at h
        · rename_i hc
          obtain ⟨hsz, hle⟩ := hc
          have hv : RelV β hp S w v (ρv x) := by have := hρ x; rw [hx] at this; exact this
          have hcl := hv.cells
          have hul : (ρv x).cells.size = size := by have := hcl.length; simp at this; omega
          have hus : us.size = cs.length := by have := hr.length; simpa using this
          have key : RelL β hp S w (splice cs off v.cells) ((ρv x).cells.zipIdx.foldl (fun cs (c, j) => cs.setIfInBounds (off + j) c) us).toList := by
            have hf : (ρv x).cells.zipIdx.foldl (fun cs (c, j) => cs.setIfInBounds (off + j) c) us = ((ρv x).cells.toList.zipIdx 0).foldl (fun (cs : Array Value) (x : Value × Nat) => cs.setIfInBounds (off + x.2) x.1) us := by
              rw [← Array.foldl_toList]; simp
            have hget := fun k => foldl_get off (ρv x).cells.toList 0 us k
            rw [← hf] at hget
            refine RelL.of_get ?_ (fun j c hj => ?_)
            · rw [length_splice _ _ _ (by omega)]
              rw [hf, Array.length_toList, foldl_size, hus]
            · rw [get_splice _ _ _ (by omega)] at hj
              simp only [Array.getElem?_toList, hget, Nat.add_zero]
              have hcsz : (ρv x).cells.toList.length = v.cells.length := hcl.length
              split at hj
              · rename_i hlt
                rw [if_neg (by omega)]
                obtain ⟨u, m1, m2⟩ := hr.get j c hj
                exact ⟨u, by simpa using m1, m2⟩
              · split at hj
                · rename_i h1 h2
                  rw [if_pos (by omega)]
                  simpa using hcl.get _ c hj
                · rename_i h1 h2
                  rw [if_neg (by omega)]
                  obtain ⟨u, m1, m2⟩ := hr.get j c hj
                  exact ⟨u, by simpa using m1, m2⟩
          obtain ⟨us', g1, g2⟩ := fill_sound place parts _ cs' _ hρ key h
          refine ⟨us', ?_, g2⟩
          simp only [Instr.fill, hpl]
          rw [if_neg (by simp [hul]; omega)]
          exact g1
        · cases h
      · cases h
    · cases h

theorem zeros_rel {z : Value} (hz : litOk z = true) (n : Nat) : RelL β hp S w (zeroRow z n) (List.replicate n z.cells.toList).flatten := by
  induction n with
  | zero => simp [zeroRow, RelL]
  | succ n ih =>
    simp only [zeroRow, List.replicate_succ, List.flatten_cons] at ih ⊢
    exact (RelL.lit (litOk_cells hz)).append ih

theorem zeroRow_plain (z : Value) (n : Nat) : ∀ c ∈ zeroRow z n, plain c = true := fun c hc => by
  simp only [zeroRow, List.mem_flatten, List.mem_replicate] at hc
  obtain ⟨l, ⟨_, rfl⟩, hc⟩ := hc
  obtain ⟨v, _, rfl⟩ := List.mem_map.1 hc
  rfl

theorem zeros_eq (z : Value) (n sz : Nat) (hs : z.cells.size = sz) (hp : 0 < sz) : (Array.range (n * sz)).map (fun i => z.cells[i % z.cells.size]!) = (List.replicate n z.cells.toList).flatten.toArray := by
  subst hs
  apply Array.ext'
  apply List.ext_getElem?
  intro k
  induction n generalizing k with
  | zero => simp
  | succ n ih =>
    simp only [List.replicate_succ, List.flatten_cons, List.getElem?_append, Array.length_toList]
    by_cases hk : k < z.cells.size
    · rw [if_pos hk]
      simp only [Array.toList_map, List.getElem?_map, Array.getElem?_toList]
      rw [Array.getElem?_eq_getElem (by simp; have := Nat.le_mul_of_pos_left z.cells.size (show 0 < n + 1 by omega); omega)]
      simp [Nat.mod_eq_of_lt hk, hk]
    · rw [if_neg hk]
      have h2 := ih (k - z.cells.size)
      simp only [List.getElem?_toArray] at h2 ⊢
      rw [← h2]
      simp only [Array.toList_map, List.getElem?_map, Array.getElem?_toList]
      by_cases hb : k < (n + 1) * z.cells.size
      · have hb2 : k - z.cells.size < n * z.cells.size := by rw [Nat.add_mul] at hb; omega
        rw [Array.getElem?_eq_getElem (by simpa using hb), Array.getElem?_eq_getElem (by simpa using hb2)]
        have hm : (k - z.cells.size) % z.cells.size = k % z.cells.size := by
          rw [Nat.mod_eq_sub_mod (a := k) (by omega)]
        simp [hm]
      · have hb2 : ¬ (k - z.cells.size < n * z.cells.size) := by rw [Nat.add_mul] at hb; omega
        rw [Array.getElem?_eq_none (by simpa using hb), Array.getElem?_eq_none (by simpa using hb2)]

theorem op_buildSlice (h : HRel β hp S w Wr) (hf : ∀ b, w.heap.size ≤ b → Wr b) (hρ : ∀ x, RelD β hp S w (ρ x) (ρv x)) {t : TypeId} {len : Nat} {parts : Array (Nat × Operand)} (ho : o.op = .buildSlice t len parts) (hop : opx P o ρ hp os = some (d, hp', os', ps)) : OpRun P Wr S β hp w ρv o d hp' := by
  unfold opx at hop
  rw [ho] at hop
  simp only at hop
  split at hop
  · rename_i e ht
    split at hop
    · rename_i ie hie
      split at hop
      · rename_i z hz
        split at hop
        · rename_i hc
          obtain ⟨hl, hsz, hzs, hlen⟩ := hc
          split at hop
          case h_2 => cases hop
          rename_i cs hfill
          split at hop
          case isFalse => cases hop
          rename_i hpl
          simp only [Option.some.injEq, Prod.mk.injEq] at hop
          obtain ⟨rfl, rfl, rfl, rfl⟩ := hop
          obtain ⟨us, g1, g2⟩ := fill_sound (ρ := ρ) (ρv := ρv) (fun i => some (i * ie.size, ie.size)) parts.toList (zeroRow z len) cs (List.replicate len z.cells.toList).flatten.toArray hρ (by simpa using zeros_rel hl len) hfill
          have ha := h.alloc (hf w.heap.size (Nat.le_refl _)) g2 [] e ie.size 1 false hsz (fun _ => plains_mem.1 hpl)
          simp only [List.append_nil, Array.toArray_toList] at ha
          have hzero := zeros_eq z len ie.size hzs hsz
          have hcl : cs.length = len * ie.size := by
            have h1 : ∀ (l : List (Nat × D)) (c0 c1 : List C), fillC (fun i => some (i * ie.size, ie.size)) c0 l = some c1 → c1.length = c0.length := by
              intro l
              induction l with
              | nil => intro c0 c1 hh; simp [fillC] at hh; rw [hh]
              | cons y l ih =>
                intro c0 c1 hh
                unfold fillC at hh
                split at hh
                · rename_i heq; cases heq
                · rename_i i' v rest heq
                  simp only at hh
                  split at hh
                  · rename_i hcc
                    have e2 : l = rest := by injection heq
                    rw [← e2] at hh
                    rw [ih _ _ hh, length_splice _ _ _ (by omega)]
                  · cases hh
                · cases hh
            rw [h1 _ _ _ hfill]
            simp [zeroRow, hzs, List.length_flatten, List.map_replicate]
          have husz : us.size = len * ie.size := by have := g2.length; simpa [hcl] using this
          refine ⟨.value (.slice (some ⟨w.heap.size, 0, none⟩) len len), _, _, _, ?_, .inl rfl, relAr_new (S := S) (heap_alloc_new w _) (Nat.le_refl _) (by rw [hcl]; exact Nat.le_refl _) (by rw [husz]; exact Nat.le_refl _), ha, ext_push _ _ _ _ _, Evo.alloc w _ h.imm⟩
          have hlen' : ¬ (len * ie.size > 2 ^ 24) := by omega
          have hparts : (parts.map fun (x : Nat × Operand) => (x.1, ρv x.2)).toList = parts.toList.map fun (i, x) => (i, ρv x) := by simp
          by_cases h0 : len * ie.size = 0
          · have hlen0 : len = 0 := by rcases Nat.mul_eq_zero.1 h0 with hh | hh <;> omega
            subst hlen0
            simp only [Nat.zero_mul, List.replicate_zero, List.flatten_nil] at g1
            simp only [execOp, ho, Instr.buildSlice, Sem.run_bind, run_underlying ht, Result.andThen_ok, sizeOf, typeInfo, run_program, hie, Sem.run_pure, Nat.zero_mul, if_true]
            have hr0 : Array.range 0 = (#[] : Array Nat) := rfl
            simp only [hr0, Array.map_empty, hparts]
            have g1' : Instr.fill (fun i => some (i * ie.size, ie.size)) #[] (List.map (fun x => (x.fst, ρv x.snd)) parts.toList) = some us := g1
            simp [g1', newRow]
          · simp only [execOp, ho, Instr.buildSlice, Sem.run_bind, run_underlying ht, Result.andThen_ok, sizeOf, typeInfo, run_program, hie, Sem.run_pure]
            rw [if_neg hlen']
            simp only [Sem.run_bind, h0, if_false, zeroValue, typeInfo, run_program, hie, hz, Sem.run_pure, Result.andThen_ok, hzero, hparts, g1]
            simp [newRow]
        · cases hop
      · cases hop
    · cases hop
  · cases hop

theorem op_makeSlice (h : HRel β hp S w Wr) (hf : ∀ b, w.heap.size ≤ b → Wr b) (hρ : ∀ x, RelD β hp S w (ρ x) (ρv x)) {t : TypeId} {l c : Operand} (ho : o.op = .makeSlice t l c) (hop : opx P o ρ hp os = some (d, hp', os', ps)) (hps : ∀ p ∈ ps, p) : OpRun P Wr S β hp w ρv o d hp' := by
  unfold opx at hop
  rw [ho] at hop
  simp only at hop
  split at hop
  · rename_i e k1 n k2 n' ht hl hc
    split at hop
    · rename_i ie hie
      split at hop
      · rename_i z hz
        split at hop
        · rename_i hcond
          obtain ⟨hlz, hsz, hzs, hby⟩ := hcond
          simp only [Option.some.injEq, Prod.mk.injEq] at hop
          obtain ⟨rfl, rfl, rfl, rfl⟩ := hop
          have e1 : n = n' := hps _ (.head _)
          have e2 : 0 ≤ n := hps _ (.tail _ (.head _))
          have e3 : (ie.bytes : Int) * n ≤ 281474976710656 := hps _ (.tail _ (.tail _ (.head _)))
          subst e1
          obtain ⟨m, rfl⟩ := Int.eq_ofNat_of_zero_le e2
          have e4 : ((ie.bytes * m : Nat) : Int) ≤ 281474976710656 := by rw [Int.natCast_mul]; exact e3
          have hb3 : ie.bytes * m ≤ 281474976710656 := by omega
          have hm : m ≤ 281474976710656 := Nat.le_trans (Nat.le_mul_of_pos_left _ hby) hb3
          have hu1 := rel_int (hl ▸ hρ l)
          have hu2 := rel_int (hc ▸ hρ c)
          have hr := zeros_rel (β := β) (hp := hp) (S := S) (w := w) hlz m
          have ha := h.alloc (hf w.heap.size (Nat.le_refl _)) hr [] e ie.size 1 false hsz (fun _ => zeroRow_plain z m)
          simp only [List.append_nil] at ha
          have hlen : (List.replicate m z.cells.toList).flatten.length = m * ie.size := by simp [List.length_flatten, List.map_replicate, hzs]
          have hlenC : (zeroRow z m).length = m * ie.size := by rw [← hr.length, hlen]
          have hw : IntKind.i64.wrap (m : Int) = m := IntWalk.i64_in _ (by omega)
          have hzero := zeros_eq z m ie.size hzs hsz
          refine ⟨.value (.slice (some ⟨w.heap.size, 0, none⟩) m m), _, _, _, ?_, .inl rfl, relAr_new (S := S) (heap_alloc_new w _) (Nat.le_refl _) (by rw [Int.toNat_natCast, hlenC]; exact Nat.le_refl _) (by rw [List.size_toArray, hlen]; exact Nat.le_refl _), ha, ext_push _ _ _ _ _, Evo.alloc w _ h.imm⟩
          have hbig : ¬ (281474976710656 < (ie.bytes : Int) * (m : Int)) := by omega
          by_cases h0 : m = 0
          · subst h0
            have hw0 : IntKind.i64.wrap 0 = 0 := hw
            have hr0 : Array.range 0 = (#[] : Array Nat) := rfl
            simp [execOp, ho, Instr.makeSlice, run_underlying ht, hu1, hu2, asInt, asIntOf, typeInfo, hie, hw0, sizeOf, newRow, hr0]
          · have hne : ¬ (m * ie.size = 0) := by
              intro hh; rcases Nat.mul_eq_zero.1 hh with hh | hh <;> omega
            have hne' : ¬ (m = 0 ∨ ie.size = 0) := by omega
            have hneg : ¬ ((m : Int) < 0) := by omega
            have hr2 : ((Array.range (m * ie.size)).map fun i => z.cells[i % z.cells.size]!) = (List.replicate m z.cells.toList).flatten.toArray := hzero
            simp [execOp, ho, Instr.makeSlice, run_underlying ht, hu1, hu2, asInt, asIntOf, typeInfo, hie, hw, sizeOf, newRow, hbig, hneg, hne', zeroValue, hz]
            rw [if_neg hne, hr2]
        · cases hop
      · cases hop
    · cases hop
  · cases hop

end
end Go.Vm
