/- The small machine's memory, gone on: a new block, a store, a list that grows in place or into a new block. It states nothing of any program. -/
import Derived.Test.YtjeeofakogoboaaVmC
namespace Go.Vm
set_option linter.unusedVariables false

/-- β, but at one number. -/
def upd (β : Nat → Option (Nat × Nat)) (id : Nat) (p : Option (Nat × Nat)) : Nat → Option (Nat × Nat) := fun i => if i = id then p else β i

theorem upd_same (β : Nat → Option (Nat × Nat)) (id : Nat) (p : Option (Nat × Nat)) : upd β id p id = p := by simp [upd]
theorem upd_other (β : Nat → Option (Nat × Nat)) {id i : Nat} (p : Option (Nat × Nat)) (h : i ≠ id) : upd β id p i = β i := by simp [upd, h]

theorem length_splice : ∀ (cs : List C) (off : Nat) (new : List C), off + new.length ≤ cs.length → (splice cs off new).length = cs.length
  | cs, 0, new, h => by simp [splice]; simp at h; omega
  | c :: cs, n + 1, new, h => by
    simp only [splice, List.length_cons]
    rw [length_splice cs n new (by simp at h; omega)]
  | [], n + 1, new, h => by simp at h

theorem get_splice : ∀ (cs : List C) (off : Nat) (new : List C), off + new.length ≤ cs.length → ∀ j, (splice cs off new)[j]? = if j < off then cs[j]? else if j < off + new.length then new[j - off]? else cs[j]?
  | cs, 0, new, h, j => by
    simp only [splice, Nat.not_lt_zero, if_false, Nat.zero_add, Nat.sub_zero]
    by_cases hj : j < new.length
    · rw [if_pos hj, List.getElem?_append_left hj]
    · rw [if_neg hj, List.getElem?_append_right (by omega), List.getElem?_drop]
      congr 1; omega
  | c :: cs, n + 1, new, h, 0 => by simp [splice]
  | c :: cs, n + 1, new, h, j + 1 => by
    simp only [splice, List.getElem?_cons_succ]
    rw [get_splice cs n new (by simp at h; omega) j]
    have e1 : (j + 1 < n + 1) = (j < n) := by simp
    have e2 : (j + 1 < n + 1 + new.length) = (j < n + new.length) := by apply propext; omega
    simp only [e1, e2, Nat.add_sub_add_right]
  | [], n + 1, new, h, j => by simp at h

theorem splice_mem {p : C → Prop} : ∀ {cs : List C} {off : Nat} {new : List C} {c : C}, c ∈ splice cs off new → (c ∈ cs → p c) → (c ∈ new → p c) → p c
  | cs, 0, new, c, h, h1, h2 => by
    simp only [splice, List.mem_append] at h
    rcases h with h | h
    · exact h2 h
    · exact h1 (List.mem_of_mem_drop h)
  | x :: cs, n + 1, new, c, h, h1, h2 => by
    simp only [splice, List.mem_cons] at h
    rcases h with h | h
    · exact h1 (by simp [h])
    · exact splice_mem h (fun hh => h1 (by simp [hh])) h2
  | [], n + 1, new, c, h, h1, h2 => by simp [splice] at h

theorem heap_setCells_other (b k : Nat) (hk : k ≠ b) : ∀ (vs : List Value) (o : Nat) (w : World), (w.setCells b o vs).heap[k]? = w.heap[k]?
  | [], o, w => rfl
  | v :: r, o, w => by rw [World.setCells, heap_setCells_other b k hk r, RowKit.Below.heap_setCell _ _ _ _ hk]

theorem size_setCells (b : Nat) : ∀ (vs : List Value) (o : Nat) (w : World), (w.setCells b o vs).heap.size = w.heap.size
  | [], o, w => rfl
  | v :: r, o, w => by rw [World.setCells, size_setCells b r]; simp [World.setCell]

theorem heap_setCells_same (b : Nat) : ∀ (vs : List Value) (o : Nat) (w : World) (arr : Array Value) (e : TypeId) (fr : Nat × Nat), w.heap[b]? = some (.cells arr e fr) →
    ∃ arr', (w.setCells b o vs).heap[b]? = some (.cells arr' e fr) ∧ arr'.size = arr.size
  | [], o, w, arr, e, fr, h => ⟨arr, h, rfl⟩
  | v :: r, o, w, arr, e, fr, h => by
    have h1 : (w.setCell ⟨b, o, none⟩ v).heap[b]? = some (.cells (arr.setIfInBounds o v) e fr) := by
      simp [World.setCell, Array.getElem?_modify, h]
    obtain ⟨arr', h2, h3⟩ := heap_setCells_same b r (o + 1) _ _ e fr h1
    exact ⟨arr', h2, by rw [h3]; simp⟩

theorem rest_setCells (b : Nat) : ∀ (vs : List Value) (o : Nat) (w : World), (w.setCells b o vs).os = w.os ∧ (w.setCells b o vs).tape = w.tape ∧ (w.setCells b o vs).output = w.output
  | [], o, w => ⟨rfl, rfl, rfl⟩
  | v :: r, o, w => by rw [World.setCells]; exact rest_setCells b r (o + 1) _

section
variable {β : Nat → Option (Nat × Nat)} {H : List Ob} {S : Nat → Nat → Prop} {w w' : World} {Wr : Nat → Prop}

theorem cell_of_heap {w w' : World} {b : Nat} (h : w'.heap[b]? = w.heap[b]?) (o : Nat) : w'.cell? ⟨b, o, none⟩ = w.cell? ⟨b, o, none⟩ := by
  simp only [World.cell?, h]

theorem Evo.of_heap (hh : w'.heap = w.heap) (h1 : w'.os = w.os) (h2 : w'.tape = w.tape) (h3 : w'.output = w.output) : Evo Wr S w w' :=
  ⟨h1, h2, h3, by rw [hh]; exact Nat.le_refl _, fun b _ _ => by rw [hh], fun b o _ => cell_of_heap (by rw [hh]) o, fun b arr e h => ⟨arr, by rw [hh]; exact h, rfl⟩⟩

theorem Evo.drew (w : World) : Evo Wr S w w.drew := Evo.of_heap rfl rfl rfl rfl

theorem HRel.of_heap (h : HRel β H S w Wr) (hh : w'.heap = w.heap) (h1 : w'.os = w.os) (h2 : w'.tape = w.tape) (h3 : w'.output = w.output) : HRel β H S w' Wr where
  cells := fun id sz ver cs fz hH => by
    obtain ⟨hsz, h'⟩ := h.cells id sz ver cs fz hH
    refine ⟨hsz, ?_⟩
    rcases h' with h' | ⟨b, o, arr, e, k1, k2, k3, k4, k5, k6⟩
    · exact .inl h'
    · refine .inr ⟨b, o, arr, e, k1, by rw [hh]; exact k2, k3, k4, fun j c hc => ?_, k6⟩
      obtain ⟨u, m1, m2⟩ := k5 j c hc
      exact ⟨u, (cell_of_heap (by rw [hh]) _).trans m1, RelC.step (Ext.refl _ _ _) (Evo.of_heap (Wr := Wr) hh h1 h2 h3) c u m2⟩
  inj := h.inj
  imm := fun b o hs => by rw [hh]; exact h.imm b o hs

theorem HRel.drew (h : HRel β H S w Wr) : HRel β H S w.drew Wr := h.of_heap rfl rfl rfl rfl

theorem Evo.alloc (w : World) (o : Obj) (hi : ∀ b k, S b k → b < w.heap.size) : Evo Wr S w (w.alloc o) where
  os := rfl
  tape := rfl
  output := rfl
  size := by simp
  block := fun b hb _ => RowKit.Below.heap_alloc w o b hb
  imm := fun b k hs => cell_of_heap (RowKit.Below.heap_alloc w o b (hi b k hs)) k
  shape := fun b arr e h => ⟨arr, by rw [RowKit.Below.heap_alloc w o b (Array.getElem?_eq_some_iff.1 h).1]; exact h, rfl⟩

theorem ext_push (β : Nat → Option (Nat × Nat)) (H : List Ob) (S : Nat → Nat → Prop) (x : Ob) (p : Option (Nat × Nat)) : Ext β H S (upd β H.length p) (H ++ [x]) S where
  len := by simp
  ids := fun id sz ver cs fz hid hH => by
    rw [List.getElem?_append_left hid] at hH
    exact ⟨ver, cs, fz, hH, Nat.le_refl _, fun _ => ⟨Nat.le_refl _, upd_other β p (by omega)⟩⟩
  sub := fun _ _ h => h

/-- A new variable, or a new array: a block of its own, with room behind. -/
theorem HRel.alloc (h : HRel β H S w Wr) (hw : Wr w.heap.size) {cs : List C} {us : List Value} (hr : RelL β H S w cs us) (more : List Value) (e : TypeId) (sz ver : Nat) (fz : Bool) (hsz : 0 < sz) (hpl : ver ≠ 0 → ∀ c ∈ cs, plain c = true) :
    HRel (upd β H.length (some (w.heap.size, 0))) (H ++ [.cells sz ver cs fz]) S (w.alloc (.cells (us ++ more).toArray e)) Wr := by
  have hx := ext_push β H S (.cells sz ver cs fz) (some (w.heap.size, 0))
  have hv : Evo Wr S w (w.alloc (.cells (us ++ more).toArray e)) := Evo.alloc w _ h.imm
  refine ⟨fun id sz' ver' cs' fz' hH => ?_, fun id id' sz1 ver1 cs1 fz1 sz2 ver2 cs2 fz2 b o o' h1 h2 h3 h4 => ?_, fun b o hs => by have := h.imm b o hs; simp; omega⟩
  · by_cases hid : id < H.length
    · rw [List.getElem?_append_left hid] at hH
      obtain ⟨hsz', h'⟩ := h.cells id sz' ver' cs' fz' hH
      refine ⟨hsz', ?_⟩
      rw [upd_other β _ (by omega)]
      rcases h' with h' | ⟨b, o, arr, e', k1, k2, k3, k4, k5, k6⟩
      · exact .inl h'
      · have hb : b < w.heap.size := (Array.getElem?_eq_some_iff.1 k2).1
        refine .inr ⟨b, o, arr, e', k1, by rw [RowKit.Below.heap_alloc _ _ _ hb]; exact k2, k3, k4, fun j c hc => ?_, k6⟩
        obtain ⟨u, m1, m2⟩ := k5 j c hc
        exact ⟨u, (cell_of_heap (RowKit.Below.heap_alloc _ _ _ hb) _).trans m1, RelC.step hx hv c u m2⟩
    · have hid' : id = H.length := by
        have := (List.getElem?_eq_some_iff.1 hH).1
        simp at this; omega
      subst hid'
      simp only [List.getElem?_concat_length, Option.some.injEq, Ob.cells.injEq] at hH
      obtain ⟨rfl, rfl, rfl, rfl⟩ := hH
      refine ⟨⟨hsz, hpl⟩, .inr ⟨w.heap.size, 0, (us ++ more).toArray, e, upd_same _ _ _, heap_alloc_new w _, hw, ?_, fun j c hc => ?_, fun k hs => ?_⟩⟩
      · simp [hr.length]
      · obtain ⟨u, m1, m2⟩ := hr.get j c hc
        refine ⟨u, ?_, RelC.step hx hv c u m2⟩
        have hj : j < us.length := (List.getElem?_eq_some_iff.1 m1).1
        simp only [World.cell?, heap_alloc_new, Nat.zero_add, Option.isSome_none, Bool.false_eq_true, if_false]
        simp [List.getElem?_append_left hj, m1]
      · exact absurd (h.imm _ _ hs) (by omega)
  · have hlt : ∀ i sz ver cs fz b o, H[i]? = some (.cells sz ver cs fz) → β i = some (b, o) → b < w.heap.size := fun i sz ver cs fz b o hi hb => by
      obtain ⟨_, h'⟩ := h.cells i sz ver cs fz hi
      rcases h' with h' | ⟨b', o', arr, e', k1, k2, _⟩
      · rw [h'.1] at hb; cases hb
      · rw [k1] at hb; injection hb with hb; injection hb with hb _; subst hb
        exact (Array.getElem?_eq_some_iff.1 k2).1
    by_cases hi1 : id < H.length
    · rw [List.getElem?_append_left hi1] at h1
      rw [upd_other β _ (by omega)] at h3
      by_cases hi2 : id' < H.length
      · rw [List.getElem?_append_left hi2] at h2
        rw [upd_other β _ (by omega)] at h4
        exact h.inj id id' _ _ _ _ _ _ _ _ b o o' h1 h2 h3 h4
      · have e2 : id' = H.length := by have := (List.getElem?_eq_some_iff.1 h2).1; simp at this; omega
        subst e2
        rw [upd_same] at h4
        injection h4 with h4; injection h4 with h4 _
        have := hlt id _ _ _ _ _ _ h1 h3
        omega
    · have e1 : id = H.length := by have := (List.getElem?_eq_some_iff.1 h1).1; simp at this; omega
      subst e1
      rw [upd_same] at h3
      injection h3 with h3; injection h3 with h3 _
      by_cases hi2 : id' < H.length
      · rw [List.getElem?_append_left hi2] at h2
        rw [upd_other β _ (by omega)] at h4
        have := hlt id' _ _ _ _ _ _ h2 h4
        omega
      · have := (List.getElem?_eq_some_iff.1 h2).1; simp at this; omega

/-- A new array without room: no block is said. -/
theorem HRel.allocNil (h : HRel β H S w Wr) (sz ver : Nat) (fz : Bool) (hsz : 0 < sz) : HRel (upd β H.length none) (H ++ [.cells sz ver [] fz]) S w Wr := by
  have hx := ext_push β H S (.cells sz ver [] fz) none
  have hv : Evo Wr S w w := Evo.refl _ _ _
  refine ⟨fun id sz' ver' cs' fz' hH => ?_, fun id id' sz1 ver1 cs1 fz1 sz2 ver2 cs2 fz2 b o o' h1 h2 h3 h4 => ?_, h.imm⟩
  · by_cases hid : id < H.length
    · rw [List.getElem?_append_left hid] at hH
      obtain ⟨hsz', h'⟩ := h.cells id sz' ver' cs' fz' hH
      refine ⟨hsz', ?_⟩
      rw [upd_other β _ (by omega)]
      rcases h' with h' | ⟨b, o, arr, e', k1, k2, k3, k4, k5, k6⟩
      · exact .inl h'
      · refine .inr ⟨b, o, arr, e', k1, k2, k3, k4, fun j c hc => ?_, k6⟩
        obtain ⟨u, m1, m2⟩ := k5 j c hc
        exact ⟨u, m1, RelC.step hx hv c u m2⟩
    · have hid' : id = H.length := by have := (List.getElem?_eq_some_iff.1 hH).1; simp at this; omega
      subst hid'
      simp only [List.getElem?_concat_length, Option.some.injEq, Ob.cells.injEq] at hH
      obtain ⟨rfl, rfl, rfl, rfl⟩ := hH
      exact ⟨⟨hsz, fun _ c hc => by simp at hc⟩, .inl ⟨upd_same _ _ _, rfl⟩⟩
  · have hi1 : id < H.length := by
      have := (List.getElem?_eq_some_iff.1 h1).1
      simp at this
      rcases Nat.lt_or_ge id H.length with hh | hh
      · exact hh
      · have e1 : id = H.length := by omega
        subst e1; rw [upd_same] at h3; cases h3
    have hi2 : id' < H.length := by
      have := (List.getElem?_eq_some_iff.1 h2).1
      simp at this
      rcases Nat.lt_or_ge id' H.length with hh | hh
      · exact hh
      · have e1 : id' = H.length := by omega
        subst e1; rw [upd_same] at h4; cases h4
    rw [List.getElem?_append_left hi1] at h1
    rw [List.getElem?_append_left hi2] at h2
    rw [upd_other β _ (by omega)] at h3 h4
    exact h.inj id id' _ _ _ _ _ _ _ _ b o o' h1 h2 h3 h4

theorem Evo.setCells (w : World) {b o : Nat} {us : List Value} (hb : Wr b) (hs : ∀ k, S b k → k < o ∨ o + us.length ≤ k) : Evo Wr S w (w.setCells b o us) where
  os := (rest_setCells b us o w).1
  tape := (rest_setCells b us o w).2.1
  output := (rest_setCells b us o w).2.2
  size := by rw [size_setCells]; exact Nat.le_refl _
  block := fun k _ hk => heap_setCells_other b k (fun e => hk (e ▸ hb)) us o w
  imm := fun k j hsk => World.cell?_setCells_out b us o w _ (fun e _ => by subst e; exact hs j hsk)
  shape := fun k arr e h => by
    by_cases hk : k = b
    · subst hk; exact heap_setCells_same k us o w arr e (0, 0) h
    · exact ⟨arr, by rw [heap_setCells_other b k hk]; exact h, rfl⟩

theorem ext_set (β : Nat → Option (Nat × Nat)) (H : List Ob) (S : Nat → Nat → Prop) {id sz ver : Nat} {cs cs' : List C} {fz fz' : Bool} (hid : H[id]? = some (.cells sz ver cs fz)) (hl : cs.length ≤ cs'.length) :
    Ext β H S β (H.set id (.cells sz ver cs' fz')) S where
  len := by simp
  ids := fun i sz1 ver1 cs1 fz1 hi hH => by
    rw [List.getElem?_set] at hH
    split at hH
    · rename_i e
      subst e
      rw [if_pos hi] at hH
      simp only [Option.some.injEq, Ob.cells.injEq] at hH
      obtain ⟨rfl, rfl, rfl, rfl⟩ := hH
      exact ⟨ver, cs, fz, hid, Nat.le_refl _, fun _ => ⟨hl, rfl⟩⟩
    · exact ⟨ver1, cs1, fz1, hH, Nat.le_refl _, fun _ => ⟨Nat.le_refl _, rfl⟩⟩
  sub := fun _ _ h => h

/-- A store. -/
theorem HRel.store (h : HRel β H S w Wr) {id sz ver b o off : Nat} {cs new : List C} {us : List Value} (hid : H[id]? = some (.cells sz ver cs false)) (hβ : β id = some (b, o)) (hlen : off + new.length ≤ cs.length)
    (hr : RelL β H S w new us) (hpl : ver ≠ 0 → ∀ c ∈ new, plain c = true) :
    HRel β (H.set id (.cells sz ver (splice cs off new) false)) S (w.setCells b (o + off) us) Wr ∧ Ext β H S β (H.set id (.cells sz ver (splice cs off new) false)) S ∧ Evo Wr S w (w.setCells b (o + off) us) := by
  have hx : Ext β H S β (H.set id (.cells sz ver (splice cs off new) false)) S := ext_set β H S hid (by rw [length_splice _ _ _ hlen]; exact Nat.le_refl _)
  obtain ⟨hsz, h'⟩ := h.cells id sz ver cs false hid
  rcases h' with h' | ⟨b', o', arr, e, k1, k2, k3, k4, k5, k6⟩
  · rw [h'.1] at hβ; cases hβ
  rw [hβ] at k1
  simp only [Option.some.injEq, Prod.mk.injEq] at k1
  obtain ⟨rfl, rfl⟩ := k1
  have hus : us.length = new.length := hr.length
  have hv : Evo Wr S w (w.setCells b (o + off) us) := Evo.setCells w k3 (fun k hs => by have := k6 k hs; simp at this; omega)
  have hcell : ∀ j, j < arr.size → (w.cell? ⟨b, j, none⟩).isSome = true := fun j hj => by simp [World.cell?, k2, hj]
  refine ⟨⟨fun id' sz' ver' cs' fz' hH => ?_, fun id1 id2 sz1 ver1 cs1 fz1 sz2 ver2 cs2 fz2 b1 o1 o2 h1 h2 h3 h4 => ?_, fun b1 o1 hs => by rw [size_setCells]; exact h.imm b1 o1 hs⟩, hx, hv⟩
  · rw [List.getElem?_set] at hH
    split at hH
    · rename_i ee
      subst ee
      split at hH
      · simp only [Option.some.injEq, Ob.cells.injEq] at hH
        obtain ⟨rfl, rfl, rfl, rfl⟩ := hH
        obtain ⟨arr', a1, a2⟩ := heap_setCells_same b us (o + off) w arr e (0, 0) k2
        refine ⟨⟨hsz.1, fun hv c hc => splice_mem (p := fun c => plain c = true) hc (hsz.2 hv c) (hpl hv c)⟩, .inr ⟨b, o, arr', e, hβ, a1, k3, by rw [length_splice _ _ _ hlen]; omega, fun j c hc => ?_, k6⟩⟩
        rw [get_splice cs off new hlen] at hc
        split at hc
        · rename_i hj
          obtain ⟨u, m1, m2⟩ := k5 j c hc
          exact ⟨u, (World.cell?_setCells_out b us (o + off) w _ (fun _ _ => .inl (by simp; omega))).trans m1, RelC.step hx hv c u m2⟩
        · split at hc
          · rename_i hj1 hj2
            obtain ⟨u, m1, m2⟩ := hr.get (j - off) c hc
            have hjl : j - off < us.length := (List.getElem?_eq_some_iff.1 m1).1
            refine ⟨u, ?_, RelC.step hx hv c u m2⟩
            have := World.cell?_setCells_in b us (o + off) w (fun i hi => hcell _ (by omega)) (j - off) hjl
            rw [show o + off + (j - off) = o + j by omega] at this
            rw [this]
            rw [List.getElem?_eq_getElem hjl] at m1
            exact m1
          · rename_i hj1 hj2
            obtain ⟨u, m1, m2⟩ := k5 j c hc
            exact ⟨u, (World.cell?_setCells_out b us (o + off) w _ (fun _ _ => .inr (by simp; omega))).trans m1, RelC.step hx hv c u m2⟩
      · cases hH
    · rename_i hne
      obtain ⟨hsz', h''⟩ := h.cells id' sz' ver' cs' fz' hH
      refine ⟨hsz', ?_⟩
      rcases h'' with h'' | ⟨b1, o1, arr1, e1, n1, n2, n3, n4, n5, n6⟩
      · exact .inl h''
      · have hb : b1 ≠ b := fun ee => hne (h.inj id id' _ _ _ _ _ _ _ _ b o o1 hid hH hβ (ee ▸ n1))
        refine .inr ⟨b1, o1, arr1, e1, n1, by rw [heap_setCells_other b b1 hb]; exact n2, n3, n4, fun j c hc => ?_, n6⟩
        obtain ⟨u, m1, m2⟩ := n5 j c hc
        exact ⟨u, (cell_of_heap (heap_setCells_other b b1 hb us (o + off) w) _).trans m1, RelC.step hx hv c u m2⟩
  · have key : ∀ (i szi veri : Nat) (csi : List C) (fzi : Bool), (H.set id (.cells sz ver (splice cs off new) false))[i]? = some (Ob.cells szi veri csi fzi) → ∃ (sz' ver' : Nat) (cs' : List C) (fz' : Bool), H[i]? = some (Ob.cells sz' ver' cs' fz') := fun i szi veri csi fzi hi => by
      rw [List.getElem?_set] at hi
      split at hi
      · rename_i ee; subst ee; exact ⟨_, _, _, _, hid⟩
      · exact ⟨_, _, _, _, hi⟩
    obtain ⟨_, _, _, _, g1⟩ := key id1 _ _ _ _ h1
    obtain ⟨_, _, _, _, g2⟩ := key id2 _ _ _ _ h2
    exact h.inj id1 id2 _ _ _ _ _ _ _ _ b1 o1 o2 g1 g2 h3 h4

end
end Go.Vm
