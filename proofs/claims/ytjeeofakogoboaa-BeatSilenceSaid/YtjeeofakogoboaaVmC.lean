/- The small machine's memory: what a new block, a store, a list that grows do to what is kept. It states nothing of any program. -/
import Derived.Test.YtjeeofakogoboaaVmB
import Derived.Deep.MidRow
import Derived.ArgAppend
namespace Go.Vm
set_option linter.unusedVariables false
set_option linter.unusedSimpArgs false

section
variable {β : Nat → Option (Nat × Nat)} {H : List Ob} {S : Nat → Nat → Prop} {w : World} {Wr : Nat → Prop}

theorem RelC.one {c : C} {u : Value} (h : RelC β H S w c u) : u.oneCell' = true := by
  cases c with
  | sc v => simp only [RelC, RelP] at h; rw [h.1]; exact h.2
  | sl n cs => simp only [RelC, RelP] at h; obtain ⟨a, cap, rfl, _⟩ := h; rfl
  | loc cs off => simp only [RelC, RelP] at h; obtain ⟨b, o, rfl, _⟩ := h; rfl
  | ar id ver off n => simp only [RelC, RelP] at h; obtain ⟨⟨a, n, cap, rfl⟩, _⟩ := h; rfl
  | ptr id ver off => simp only [RelC, RelP] at h; obtain ⟨⟨a, rfl⟩, _⟩ := h; rfl
  | fn f caps => simp only [RelC, RelP] at h; obtain ⟨us, rfl, _⟩ := h; rfl
  | dead => simpa only [RelC, RelP] using h

theorem RelC.cells {c : C} {u : Value} (h : RelC β H S w c u) : u.cells = #[u] := by
  have := h.one
  cases u <;> simp_all [Value.cells, Value.oneCell']

theorem RelL.length : ∀ {cs : List C} {us : List Value}, RelL β H S w cs us → us.length = cs.length
  | [], _, h => by simp only [RelL] at h; simp [h]
  | c :: cs, _, h => by
    simp only [RelL] at h
    obtain ⟨u, us', rfl, _, h3⟩ := h
    simp [RelL.length h3]

theorem RelL.get : ∀ {cs : List C} {us : List Value}, RelL β H S w cs us → ∀ (j : Nat) (c : C), cs[j]? = some c → ∃ u, us[j]? = some u ∧ RelC β H S w c u
  | [], _, _, j, c, hc => by simp at hc
  | c0 :: cs, _, h, 0, c, hc => by
    simp only [RelL] at h
    obtain ⟨u, us', rfl, h2, h3⟩ := h
    simp at hc; subst hc
    exact ⟨u, rfl, h2⟩
  | c0 :: cs, _, h, j + 1, c, hc => by
    simp only [RelL] at h
    obtain ⟨u, us', rfl, h2, h3⟩ := h
    simp at hc
    simpa using RelL.get h3 j c hc

theorem RelL.of_get : ∀ {cs : List C} {us : List Value}, us.length = cs.length → (∀ (j : Nat) (c : C), cs[j]? = some c → ∃ u, us[j]? = some u ∧ RelC β H S w c u) → RelL β H S w cs us
  | [], us, hl, _ => by simp only [RelL]; simpa using hl
  | c :: cs, [], hl, _ => by simp at hl
  | c :: cs, u :: us, hl, h => by
    simp only [RelL]
    refine ⟨u, us, rfl, ?_, RelL.of_get (by simpa using hl) (fun j c' hc => ?_)⟩
    · obtain ⟨u', h1, h2⟩ := h 0 c rfl
      simp at h1; subst h1; exact h2
    · obtain ⟨u', h1, h2⟩ := h (j + 1) c' (by simpa using hc)
      exact ⟨u', by simpa using h1, h2⟩

theorem RelL.append : ∀ {cs ds : List C} {us vs : List Value}, RelL β H S w cs us → RelL β H S w ds vs → RelL β H S w (cs ++ ds) (us ++ vs)
  | [], ds, us, vs, h, k => by simp only [RelL] at h; subst h; simpa using k
  | c :: cs, ds, _, vs, h, k => by
    simp only [RelL] at h
    obtain ⟨u, us', rfl, h2, h3⟩ := h
    simp only [List.cons_append, RelL]
    exact ⟨u, us' ++ vs, rfl, h2, RelL.append h3 k⟩

theorem RelL.drop : ∀ {cs : List C} {us : List Value} (n : Nat), RelL β H S w cs us → RelL β H S w (cs.drop n) (us.drop n)
  | cs, us, 0, h => by simpa using h
  | [], us, n + 1, h => by simp only [RelL] at h; subst h; simp [RelL]
  | c :: cs, _, n + 1, h => by
    simp only [RelL] at h
    obtain ⟨u, us', rfl, h2, h3⟩ := h
    simpa using RelL.drop n h3

theorem RelL.take : ∀ {cs : List C} {us : List Value} (n : Nat), RelL β H S w cs us → RelL β H S w (cs.take n) (us.take n)
  | cs, us, 0, h => by simp [RelL]
  | [], us, n + 1, h => by simp only [RelL] at h; subst h; simp [RelL]
  | c :: cs, _, n + 1, h => by
    simp only [RelL] at h
    obtain ⟨u, us', rfl, h2, h3⟩ := h
    simp only [List.take_succ_cons, RelL]
    exact ⟨u, us'.take n, rfl, h2, RelL.take n h3⟩

theorem RelL.all {cs : List C} {us : List Value} (h : RelL β H S w cs us) : ∀ u ∈ us, u.oneCell' = true := by
  intro u hu
  obtain ⟨j, hj, rfl⟩ := List.mem_iff_getElem.1 hu
  obtain ⟨u', h1, h2⟩ := h.get j (cs[j]'(by rw [← h.length]; exact hj)) (List.getElem?_eq_getElem _)
  rw [List.getElem?_eq_getElem hj] at h1
  injection h1 with h1
  rw [h1]
  exact h2.one

theorem RelL.lit {zs : List Value} (h : ∀ u ∈ zs, u.oneCell' = true) : RelL β H S w (zs.map C.sc) zs :=
  RelL.of_get (by simp) (fun j c hc => by
    simp only [List.getElem?_map, Option.map_eq_some_iff] at hc
    obtain ⟨u, h1, rfl⟩ := hc
    exact ⟨u, h1, by simp only [RelC, RelP]; exact ⟨True.intro, h u (List.mem_of_getElem? h1)⟩⟩)

theorem litOk_cells {v : Value} (h : litOk v = true) : ∀ u ∈ v.cells.toList, u.oneCell' = true := by
  cases v with
  | agg cs => simpa only [litOk, Value.cells, List.all_eq_true] using h
  | tuple vs => simp [litOk] at h
  | _ => simp [Value.cells, Value.oneCell']

theorem litV_cells {v : Value} (h : litOk v = true) : (litV v).cells = v.cells.toList.map C.sc := by
  cases v <;> simp_all [litOk, litV, V.cells, Value.cells]

theorem RelV.lit {v : Value} (h : litOk v = true) : RelV β H S w (litV v) v := by
  cases v with
  | agg cs => exact ⟨cs, rfl, RelL.lit (by simpa only [litOk, List.all_eq_true] using h)⟩
  | tuple vs => simp [litOk] at h
  | _ => simp [litV, RelV, RelC, RelP, Value.oneCell']

theorem RelD.lit (v : Value) : RelD β H S w (lit v) v := by
  unfold Vm.lit
  split
  · rename_i h; exact RelV.lit h
  · trivial

/-- A value's cells. -/
theorem RelV.cells {x : V} {u : Value} (h : RelV β H S w x u) : RelL β H S w x.cells u.cells.toList := by
  cases x with
  | one c =>
    have h' : RelC β H S w c u := h
    rw [h'.cells]
    simp only [V.cells, RelL]
    exact ⟨u, [], rfl, h', rfl⟩
  | agg cs => obtain ⟨us, rfl, h2⟩ := h; exact h2

theorem RelV.wrap {agg : Bool} {cs : List C} {us : List Value} {v : V} (h : RelL β H S w cs us) (hw : wrapV agg cs = some v) : RelV β H S w v (if agg then .agg us.toArray else us.headD undef) := by
  cases agg with
  | true => simp [wrapV] at hw; subst hw; exact ⟨us.toArray, rfl, by simpa using h⟩
  | false =>
    match cs, hw with
    | [c], hw =>
      simp [wrapV] at hw; subst hw
      simp only [RelL] at h
      obtain ⟨u, us', rfl, h2, rfl⟩ := h
      simpa [RelV] using h2

theorem wrap_one {cs : List C} {v : V} (hw : wrapV false cs = some v) : ∃ c, cs = [c] := by
  match cs, hw with
  | [c], _ => exact ⟨c, rfl⟩

/-- Cells that lie somewhere, told as values. -/
def Lies (β : Nat → Option (Nat × Nat)) (H : List Ob) (S : Nat → Nat → Prop) (w : World) (cs : List C) (b o : Nat) : Prop :=
  ∀ j c, cs[j]? = some c → ∃ u, w.cell? ⟨b, o + j, none⟩ = some u ∧ RelC β H S w c u

theorem Lies.drop {cs : List C} {b o : Nat} (h : Lies β H S w cs b o) (n : Nat) : Lies β H S w (cs.drop n) b (o + n) := fun j c hc => by
  have := h (n + j) c (by simpa using hc)
  rwa [show o + (n + j) = o + n + j by omega] at this

theorem Lies.take {cs : List C} {b o : Nat} (h : Lies β H S w cs b o) (n : Nat) : Lies β H S w (cs.take n) b o := fun j c hc => by
  refine h j c ?_
  rw [List.getElem?_take] at hc
  split at hc
  · exact hc
  · simp at hc

/-- The same for cells that lead to nothing that is kept. -/
def LiesP (S : Nat → Nat → Prop) (w : World) (cs : List C) (b o : Nat) : Prop :=
  ∀ j c, cs[j]? = some c → ∃ u, w.cell? ⟨b, o + j, none⟩ = some u ∧ RelP S w c u

theorem LiesP.lies {cs : List C} {b o : Nat} (h : LiesP S w cs b o) : Lies β H S w cs b o := fun j c hc => by
  obtain ⟨u, h1, h2⟩ := h j c hc
  exact ⟨u, h1, RelP.rel c u h2⟩

theorem LiesP.drop {cs : List C} {b o : Nat} (h : LiesP S w cs b o) (n : Nat) : LiesP S w (cs.drop n) b (o + n) := fun j c hc => by
  have := h (n + j) c (by simpa using hc)
  rwa [show o + (n + j) = o + n + j by omega] at this

theorem LiesP.take {cs : List C} {b o : Nat} (h : LiesP S w cs b o) (n : Nat) : LiesP S w (cs.take n) b o := fun j c hc => by
  refine h j c ?_
  rw [List.getElem?_take] at hc
  split at hc
  · exact hc
  · simp at hc

theorem LiesP.plain {cs : List C} {b o : Nat} (h : LiesP S w cs b o) : ∀ c ∈ cs, plain c = true := fun c hc => by
  obtain ⟨j, hj, rfl⟩ := List.mem_iff_getElem.1 hc
  obtain ⟨u, _, h2⟩ := h j _ (List.getElem?_eq_getElem hj)
  exact RelP.isPlain _ u h2

theorem Lies.plain {cs : List C} {b o : Nat} (h : Lies β H S w cs b o) (hp : ∀ c ∈ cs, plain c = true) : LiesP S w cs b o := fun j c hc => by
  obtain ⟨u, h1, h2⟩ := h j c hc
  exact ⟨u, h1, RelC.plain c u (hp c (List.mem_of_getElem? hc)) h2⟩

theorem RelAt.liesP : ∀ {cs : List C} {b o : Nat}, RelAt S w cs b o → LiesP S w cs b o ∧ ∀ j, j < cs.length → S b (o + j)
  | [], b, o, _ => ⟨fun j c hc => by simp at hc, fun j hj => by simp at hj⟩
  | c :: cs, b, o, h => by
    simp only [RelAt] at h
    obtain ⟨h1, h2, h3⟩ := h
    obtain ⟨k1, k2⟩ := RelAt.liesP h3
    constructor
    · intro j c' hc
      cases j with
      | zero => simp at hc; subst hc; exact h2
      | succ j => have := k1 j c' (by simpa using hc); rwa [show o + 1 + j = o + (j + 1) by omega] at this
    · intro j hj
      cases j with
      | zero => exact h1
      | succ j => have := k2 j (by simpa using hj); rwa [show o + 1 + j = o + (j + 1) by omega] at this

theorem RelAt.lies {cs : List C} {b o : Nat} (h : RelAt S w cs b o) : Lies β H S w cs b o ∧ ∀ j, j < cs.length → S b (o + j) :=
  ⟨h.liesP.1.lies, h.liesP.2⟩

theorem RelAt.of_liesP : ∀ {cs : List C} {b o : Nat}, LiesP S w cs b o → (∀ j, j < cs.length → S b (o + j)) → RelAt S w cs b o
  | [], b, o, _, _ => by simp only [RelAt]
  | c :: cs, b, o, h, hs => by
    simp only [RelAt]
    refine ⟨by simpa using hs 0 (by simp), by simpa using h 0 c rfl, RelAt.of_liesP (fun j c' hc => ?_) (fun j hj => ?_)⟩
    · have := h (j + 1) c' (by simpa using hc); rwa [show o + (j + 1) = o + 1 + j by omega] at this
    · have := hs (j + 1) (by simpa using hj); rwa [show o + (j + 1) = o + 1 + j by omega] at this

theorem Lies.values {cs : List C} {b o : Nat} (h : Lies β H S w cs b o) : ∃ us : List Value, RelL β H S w cs us ∧ ∀ j u, us[j]? = some u → w.cell? ⟨b, o + j, none⟩ = some u := by
  refine ⟨(List.range cs.length).map fun j => (w.cell? ⟨b, o + j, none⟩).getD undef, RelL.of_get (by simp) (fun j c hc => ?_), fun j u hu => ?_⟩
  · obtain ⟨u, h1, h2⟩ := h j c hc
    have hj : j < cs.length := (List.getElem?_eq_some_iff.1 hc).1
    exact ⟨u, by simp [hj, h1], h2⟩
  · simp only [List.getElem?_map, Option.map_eq_some_iff] at hu
    obtain ⟨k, hk, rfl⟩ := hu
    have hj : j < cs.length := by
      have := (List.getElem?_eq_some_iff.1 hk).1
      simpa using this
    rw [List.getElem?_range hj] at hk
    injection hk with hk
    subst hk
    obtain ⟨u, h1, _⟩ := h j cs[j] (List.getElem?_eq_getElem hj)
    simp [h1]

/-- A variable that lies there is read. -/
theorem run_loadVar_lies {P : Program} {t : TypeId} {agg : Bool} {n : Nat} {cs : List C} {b o : Nat} {v : V} (ht : tinfo P t = some (agg, n)) (h : Lies β H S w cs b o) (hl : cs.length = n) (hw : wrapV agg cs = some v) :
    ∃ u, (loadVar t ⟨b, o, none⟩).run P w = .ok u w ∧ RelV β H S w v u := by
  obtain ⟨us, h1, h2⟩ := h.values
  have hus : us.length = n := by rw [h1.length, hl]
  have hv := RelV.wrap h1 hw
  unfold tinfo at ht
  have hrow : ∀ d i, P.underlying t = some d → d.isRow = true → P.info? t = some i → i.size = n → (loadVar t ⟨b, o, none⟩).run P w = .ok (.agg us.toArray) w := fun d i hd hr hi hn =>
    run_loadVar_mid w b o t us d (fun j u hu => h2 j u hu) hd hr (by rw [hi]; simp [hn, hus])
  split at ht
  · rename_i d i hd hi
    simp only [Option.some.injEq, Prod.mk.injEq] at ht
    obtain ⟨rfl, rfl⟩ := ht
    exact ⟨_, hrow _ _ hd rfl hi rfl, by simpa using hv⟩
  · rename_i d i hd hi
    simp only [Option.some.injEq, Prod.mk.injEq] at ht
    obtain ⟨rfl, rfl⟩ := ht
    exact ⟨_, hrow _ _ hd rfl hi rfl, by simpa using hv⟩
  · rename_i d i h1' h2' hd hi
    simp only [Option.some.injEq, Prod.mk.injEq] at ht
    obtain ⟨rfl, rfl⟩ := ht
    obtain ⟨c, rfl⟩ := wrap_one hw
    obtain ⟨u, us', hu, _, _⟩ := (by simpa only [RelL] using h1 : ∃ u us', us = u :: us' ∧ RelC β H S w c u ∧ us' = [])
    have hc := h2 0 u (by simp [hu])
    refine ⟨u, ?_, by simpa [hu] using hv⟩
    have hagg : (isAgg t).run P w = .ok false w := by
      unfold isAgg
      rw [Sem.run_bind, run_underlying hd w]
      cases d with
      | struct fs => exact absurd rfl (h1' fs)
      | array m e => exact absurd rfl (h2' m e)
      | _ => rfl
    simp only [Nat.add_zero] at hc
    simp [loadVar, hagg, hc]
  · cases ht

end
end Go.Vm
