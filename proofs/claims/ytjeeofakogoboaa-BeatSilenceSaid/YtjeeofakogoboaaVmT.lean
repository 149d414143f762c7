/- The small machine's step, with a part of what is kept out of sight. It states nothing of any program. -/
import Derived.Test.YtjeeofakogoboaaVmS
namespace Go.Vm
set_option linter.unusedVariables false
set_option linter.unusedSimpArgs false

/-- The slots that are looked at; the others dead. -/
def maskS (keep : List Nat) : Nat → List D → List D
  | _, [] => []
  | i, d :: ds => (match keep.contains i with | true => d | false => .dead) :: maskS keep (i + 1) ds

/-- What is kept, but for what is hidden. -/
def maskH (hide : List Nat) : Nat → List Ob → List Ob
  | _, [] => []
  | i, o :: os => (match hide.contains i with | true => .gone | false => o) :: maskH hide (i + 1) os

/-- What is kept, with what was written. -/
def over (wr : List Nat) : Nat → List Ob → List Ob → List Ob
  | _, [], hp => hp
  | _, x :: hp2, [] => x :: hp2
  | i, x :: hp2, y :: hp => (match wr.contains i with | true => x | false => y) :: over wr (i + 1) hp2 hp

mutual
def allC (f : Nat → Bool) : C → Bool
  | .ar id _ _ _ => f id
  | .ptr id _ _ => f id
  | .fn _ caps => allL f caps
  | _ => true
def allL (f : Nat → Bool) : List C → Bool
  | [] => true
  | c :: cs => allC f c && allL f cs
end
def allV (f : Nat → Bool) : V → Bool
  | .one c => allC f c
  | .agg cs => allL f cs
def allVs (f : Nat → Bool) : List V → Bool
  | [] => true
  | x :: xs => allV f x && allVs f xs
def allD (f : Nat → Bool) : D → Bool
  | .v x => allV f x
  | .tup xs => allVs f xs
  | .dead => true
def allDs (f : Nat → Bool) : List D → Bool
  | [] => true
  | x :: xs => allD f x && allDs f xs
def allOb (f : Nat → Bool) : Ob → Bool
  | .cells _ ver cs _ => match ver with | 0 => allL f cs | _ + 1 => true
  | .gone => true
def allObs (f : Nat → Bool) : List Ob → Bool
  | [] => true
  | x :: xs => allOb f x && allObs f xs

mutual
theorem allC_true {f : Nat → Bool} (h : ∀ i, f i = true) : ∀ c, allC f c = true
  | .ar .. => h _
  | .ptr .. => h _
  | .fn _ caps => by simp only [allC]; exact allL_true h caps
  | .sc _ => rfl
  | .sl .. => rfl
  | .loc .. => rfl
  | .dead => rfl
theorem allL_true {f : Nat → Bool} (h : ∀ i, f i = true) : ∀ cs, allL f cs = true
  | [] => rfl
  | c :: cs => by simp [allL, allC_true h c, allL_true h cs]
end

theorem allL_mem {f : Nat → Bool} : ∀ {cs : List C}, allL f cs = true → ∀ c ∈ cs, allC f c = true
  | [], _, c, hc => by cases hc
  | c :: cs, h, x, hx => by
    simp only [allL, Bool.and_eq_true] at h
    cases hx with
    | head => exact h.1
    | tail _ hx => exact allL_mem h.2 x hx

theorem allObs_get {f : Nat → Bool} : ∀ {obs : List Ob}, allObs f obs = true → ∀ (i : Nat) ob, obs[i]? = some ob → allOb f ob = true
  | [], _, i, ob, h => by simp at h
  | o :: os, h, 0, ob, hi => by simp only [allObs, Bool.and_eq_true] at h; simp at hi; subst hi; exact h.1
  | o :: os, h, i + 1, ob, hi => by simp only [allObs, Bool.and_eq_true] at h; exact allObs_get h.2 i ob (by simpa using hi)

theorem allDs_get {f : Nat → Bool} : ∀ {ds : List D}, allDs f ds = true → ∀ (i : Nat) d, ds[i]? = some d → allD f d = true
  | [], _, i, ob, h => by simp at h
  | o :: os, h, 0, ob, hi => by simp only [allDs, Bool.and_eq_true] at h; simp at hi; subst hi; exact h.1
  | o :: os, h, i + 1, ob, hi => by simp only [allDs, Bool.and_eq_true] at h; exact allDs_get h.2 i ob (by simpa using hi)

section
variable {β β' : Nat → Option (Nat × Nat)} {H H' : List Ob} {S : Nat → Nat → Prop} {w : World}

/-- What is kept here and there alike, as far as f goes. -/
def Alike (f : Nat → Bool) (β : Nat → Option (Nat × Nat)) (H : List Ob) (β' : Nat → Option (Nat × Nat)) (H' : List Ob) : Prop :=
  ∀ id, f id = true → id < H.length → id < H'.length ∧ ∀ sz ver cs fz, H'[id]? = some (.cells sz ver cs fz) → H[id]? = some (.cells sz ver cs fz) ∧ β' id = β id

mutual
theorem RelC.alike {f : Nat → Bool} (h : Alike f β H β' H') : ∀ (c : C) (u : Value), allC f c = true → RelC β H S w c u → RelC β' H' S w c u
  | .sc v, u, _, hr => hr
  | .sl n cs, u, _, hr => hr
  | .loc cs off, u, _, hr => hr
  | .dead, u, _, hr => hr
  | .ar id ver off n, u, hf, hr => by
    simp only [RelC] at hr ⊢
    refine ⟨hr.1, ?_⟩
    obtain ⟨hlt, h2⟩ := hr.2
    obtain ⟨k1, k2⟩ := h id hf hlt
    refine ⟨k1, fun sz ver' cs fz hH => ?_⟩
    obtain ⟨e1, e2⟩ := k2 sz ver' cs fz hH
    have := h2 sz ver' cs fz e1
    rw [e2]
    exact this
  | .ptr id ver off, u, hf, hr => by
    simp only [RelC] at hr ⊢
    refine ⟨hr.1, ?_⟩
    obtain ⟨hlt, h2⟩ := hr.2
    obtain ⟨k1, k2⟩ := h id hf hlt
    refine ⟨k1, fun sz ver' cs fz hH => ?_⟩
    obtain ⟨e1, e2⟩ := k2 sz ver' cs fz hH
    have := h2 sz ver' cs fz e1
    rw [e2]
    exact this
  | .fn g caps, u, hf, hr => by
    simp only [RelC] at hr ⊢
    obtain ⟨us, h1, h2⟩ := hr
    exact ⟨us, h1, RelL.alike h caps us.toList (by simpa [allC] using hf) h2⟩
theorem RelL.alike {f : Nat → Bool} (h : Alike f β H β' H') : ∀ (cs : List C) (us : List Value), allL f cs = true → RelL β H S w cs us → RelL β' H' S w cs us
  | [], us, _, hr => by simp only [RelL] at hr ⊢; exact hr
  | c :: cs, us, hf, hr => by
    simp only [RelL] at hr ⊢
    simp only [allL, Bool.and_eq_true] at hf
    obtain ⟨u, us', h1, h2, h3⟩ := hr
    exact ⟨u, us', h1, RelC.alike h c u hf.1 h2, RelL.alike h cs us' hf.2 h3⟩
end

theorem RelV.alike {f : Nat → Bool} (h : Alike f β H β' H') (x : V) (u : Value) (hf : allV f x = true) (hr : RelV β H S w x u) : RelV β' H' S w x u := by
  cases x with
  | one c => exact RelC.alike h c u hf hr
  | agg cs => obtain ⟨us, h1, h2⟩ := hr; exact ⟨us, h1, RelL.alike h cs _ hf h2⟩

theorem RelVs.alike {f : Nat → Bool} (h : Alike f β H β' H') : ∀ (xs : List V) (us : List Value), allVs f xs = true → RelVs β H S w xs us → RelVs β' H' S w xs us
  | [], us, _, hr => hr
  | x :: xs, us, hf, ⟨u, us', h1, h2, h3⟩ => by
    simp only [allVs, Bool.and_eq_true] at hf
    exact ⟨u, us', h1, RelV.alike h x u hf.1 h2, RelVs.alike h xs us' hf.2 h3⟩

theorem RelD.alike {f : Nat → Bool} (h : Alike f β H β' H') (d : D) (u : Value) (hf : allD f d = true) (hr : RelD β H S w d u) : RelD β' H' S w d u := by
  cases d with
  | v x => exact RelV.alike h x u hf hr
  | tup xs => obtain ⟨us, h1, h2⟩ := hr; exact ⟨us, h1, RelVs.alike h xs _ hf h2⟩
  | dead => trivial

end

theorem maskS_get (keep : List Nat) : ∀ (ds : List D) (i t : Nat), (maskS keep i ds)[t]? = (ds[t]?).map fun d => if keep.contains (i + t) then d else .dead
  | [], i, t => by simp [maskS]
  | d :: ds, i, 0 => by simp only [maskS, List.getElem?_cons_zero, Option.map_some, Nat.add_zero]; cases keep.contains i <;> rfl
  | d :: ds, i, t + 1 => by simp only [maskS, List.getElem?_cons_succ]; rw [maskS_get keep ds (i + 1) t]; simp only [show i + 1 + t = i + (t + 1) from by omega]

theorem maskH_get (hide : List Nat) : ∀ (os : List Ob) (i t : Nat), (maskH hide i os)[t]? = (os[t]?).map fun o => if hide.contains (i + t) then .gone else o
  | [], i, t => by simp [maskH]
  | d :: ds, i, 0 => by simp only [maskH, List.getElem?_cons_zero, Option.map_some, Nat.add_zero]; cases hide.contains i <;> rfl
  | d :: ds, i, t + 1 => by simp only [maskH, List.getElem?_cons_succ]; rw [maskH_get hide ds (i + 1) t]; simp only [show i + 1 + t = i + (t + 1) from by omega]

theorem maskH_length (hide : List Nat) : ∀ (os : List Ob) (i : Nat), (maskH hide i os).length = os.length
  | [], i => rfl
  | d :: ds, i => by simp [maskH, maskH_length hide ds]

theorem over_get (wr : List Nat) : ∀ (hp2 hp : List Ob) (i t : Nat), (over wr i hp2 hp)[t]? = if t < hp.length then (if t < hp2.length ∧ wr.contains (i + t) = true then hp2[t]? else hp[t]?) else hp2[t]?
  | [], hp, i, t => by
    simp only [over, List.length_nil, Nat.not_lt_zero, false_and, if_false]
    by_cases h : t < hp.length
    · simp [h]
    · simp [h]
  | x :: hp2, [], i, t => by simp [over]
  | x :: hp2, y :: hp, i, 0 => by
    simp only [over, List.getElem?_cons_zero, List.length_cons, Nat.zero_lt_succ, if_true, true_and, Nat.add_zero]
    cases wr.contains i <;> simp
  | x :: hp2, y :: hp, i, t + 1 => by
    simp only [over, List.getElem?_cons_succ, List.length_cons, Nat.add_lt_add_iff_right]
    rw [over_get wr hp2 hp (i + 1) t]
    simp only [show i + 1 + t = i + (t + 1) from by omega]

theorem over_length (wr : List Nat) : ∀ (hp2 hp : List Ob) (i : Nat), (over wr i hp2 hp).length = max hp2.length hp.length
  | [], hp, i => by simp [over]
  | x :: hp2, [], i => by simp [over]
  | x :: hp2, y :: hp, i => by simp [over, over_length wr hp2 hp (i + 1)]

/-- A step that sees but a part: the rest stays. -/
theorem frame {P : Program} {Wr : Nat → Prop} {m : Nat} {sl : List D} {hp hp2 : List Ob} {β : Nat → Option (Nat × Nat)} {S : Nat → Nat → Prop} {a : Act} {w : World} {o : Oper} {keep hide wr : List Nat} {base : Nat} {ts ts' : List Tell} {d : D} {ps : List Prop} {Q : Exit → Act → World → Prop} {K : Act → World → Prop}
    (hs : SR Wr m sl hp β S a w) (hm : m ≤ base) (hbase : base ≤ hp.length)
    (hchk1 : base = hp.length ∨ (allDs (fun i => decide (i < base)) (maskS keep 0 sl) = true ∧ allObs (fun i => decide (i < base)) ((maskH hide 0 hp).take base) = true))
    (h : stepx P o (evl (maskS keep 0 sl)) ((maskH hide 0 hp).take base) ts = some (d, hp2, ts', ps)) (hps : ∀ p ∈ ps, p)
    (hlen : hp2.length = base ∨ base = hp.length)
    (hwr : ∀ id, wr.contains id = false → id < base → hp2[id]? = ((maskH hide 0 hp).take base)[id]?)
    (hhide : ∀ id, hide.contains id = true → wr.contains id = false ∧ id < base)
    (hchk2 : hide = [] ∨ (allD (fun i => !hide.contains i) d = true ∧ allObs (fun i => !hide.contains i) hp2 = true))
    (hK : ∀ β' S' a' w', SR Wr m (putD sl o.dst d) (over wr 0 hp2 hp) β' S' a' w' → Gone Wr m hp β S w (over wr 0 hp2 hp) β' S' w' → K a' w') : o.wp P a w K Q := by
  generalize hhM : (maskH hide 0 hp).take base = hpM at *
  have hMlen : hpM.length = base := by rw [← hhM, List.length_take, maskH_length]; omega
  have hMget : ∀ id, id < base → hpM[id]? = (hp[id]?).map fun o => if hide.contains id then .gone else o := fun id hid => by
    rw [← hhM, List.getElem?_take, if_pos hid, maskH_get]; simp
  have hMcells : ∀ id sz ver cs fz, hpM[id]? = some (.cells sz ver cs fz) → id < base ∧ hide.contains id = false ∧ hp[id]? = some (.cells sz ver cs fz) := fun id sz ver cs fz hid => by
    have hlt : id < base := by rw [← hMlen]; exact (List.getElem?_eq_some_iff.1 hid).1
    rw [hMget id hlt] at hid
    cases hq : hp[id]? with
    | none => rw [hq] at hid; cases hid
    | some ob =>
      rw [hq] at hid
      simp only [Option.map_some, Option.some.injEq] at hid
      by_cases hh : hide.contains id = true
      · rw [if_pos hh] at hid; cases hid
      · rw [if_neg hh] at hid; exact ⟨hlt, by simpa using hh, by rw [hid]⟩
  -- the view downwards
  obtain ⟨f1, hf1, hsl1, hob1⟩ : ∃ f1 : Nat → Bool, (∀ id, f1 id = true → id < hp.length → id < base) ∧ (∀ t d', (maskS keep 0 sl)[t]? = some d' → allD f1 d' = true ∨ ∀ i, f1 i = true) ∧ (∀ (i : Nat) ob, hpM[i]? = some ob → allOb f1 ob = true ∨ ∀ i, f1 i = true) := by
    rcases hchk1 with hb | ⟨h1, h2⟩
    · exact ⟨fun _ => true, fun id _ hlt => by omega, fun _ _ _ => .inr fun _ => rfl, fun _ _ _ => .inr fun _ => rfl⟩
    · exact ⟨fun i => decide (i < base), fun id hid _ => by simpa using hid, fun t d' hd => .inl (allDs_get h1 t d' hd), fun i ob hob => .inl (allObs_get h2 i ob hob)⟩
  have hdown : Alike f1 β hp β hpM := fun id hf hlt => by
    have hb := hf1 id hf hlt
    refine ⟨by rw [hMlen]; exact hb, fun sz ver cs fz hid => ⟨(hMcells id sz ver cs fz hid).2.2, rfl⟩⟩
  have hDtrue : ∀ {f : Nat → Bool} (d' : D), (∀ i, f i = true) → allD f d' = true := by
    intro f d' hf
    have hV : ∀ x, allV f x = true := fun x => by cases x with | one c => exact allC_true hf c | agg cs => exact allL_true hf cs
    cases d' with
    | v x => exact hV x
    | tup xs =>
      simp only [allD]
      induction xs with
      | nil => rfl
      | cons x xs ih => simp [allVs, hV x, ih]
    | dead => rfl
  let Wr' : Nat → Prop := fun b => Wr b ∧ ∀ id sz ver cs fz o', hp[id]? = some (.cells sz ver cs fz) → (hide.contains id = true ∨ base ≤ id) → β id ≠ some (b, o')
  have hH' : HRel β hpM S w Wr' := by
    refine ⟨fun id sz ver cs fz hid => ?_, fun id id' sz ver cs fz sz' ver' cs' fz' b o o' h1 h2 h3 h4 => ?_, hs.heap.imm⟩
    · obtain ⟨hlt, hnh, hid0⟩ := hMcells id sz ver cs fz hid
      obtain ⟨k0, k⟩ := hs.heap.cells id sz ver cs fz hid0
      refine ⟨k0, ?_⟩
      rcases k with k | ⟨b, o', arr, e, k1, k2, k3, k4, k5, k6⟩
      · exact .inl k
      · refine .inr ⟨b, o', arr, e, k1, k2, ⟨k3, fun id2 sz2 ver2 cs2 fz2 o2 q1 q2 q3 => ?_⟩, k4, fun j c hj => ?_, k6⟩
        · have he := hs.heap.inj id id2 sz ver cs fz sz2 ver2 cs2 fz2 b o' o2 hid0 q1 k1 q3
          subst he
          rcases q2 with q2 | q2
          · rw [hnh] at q2; cases q2
          · omega
        · obtain ⟨u, u1, u2⟩ := k5 j c hj
          refine ⟨u, u1, ?_⟩
          by_cases hv : ver = 0
          · subst hv
            rcases hob1 id _ hid with hall | hall
            · simp only [allOb] at hall
              exact RelC.alike hdown c u (allL_mem hall c (List.mem_of_getElem? hj)) u2
            · exact RelC.alike hdown c u (allC_true hall c) u2
          · have hp0 := RelC.plain c u (k0.2 hv c (List.mem_of_getElem? hj)) u2
            exact hp0.rel c u
    · exact hs.heap.inj id id' sz ver cs fz sz' ver' cs' fz' b o o' (hMcells _ _ _ _ _ h1).2.2 (hMcells _ _ _ _ _ h2).2.2 h3 h4
  have hblk : ∀ id sz ver cs fz b o', hp[id]? = some (.cells sz ver cs fz) → β id = some (b, o') → b < w.heap.size := fun id sz ver cs fz b o' h1 h2 => hs.heap.block_lt h1 h2
  have hfr' : ∀ b, w.heap.size ≤ b → Wr' b := fun b hb => ⟨hs.fresh b hb, fun id sz ver cs fz o' h1 _ h3 => by have := hblk id sz ver cs fz b o' h1 h3; omega⟩
  have hρ : ∀ x, RelD β hpM S w (evl (maskS keep 0 sl) x) (a.eval x) := fun x => by
    cases x with
    | tmp t =>
      have hg := hs.slots.get t
      simp only [evl, Act.eval]
      have e : a.tmps.getD t undef = (a.tmps.toList[t]?).getD undef := by simp [Array.getD_eq_getD_getElem?]
      rw [e]
      cases hq : (maskS keep 0 sl)[t]? with
      | none => trivial
      | some d' =>
        simp only [Option.getD_some]
        have hall := hsl1 t d' hq
        rw [maskS_get] at hq
        cases hq2 : sl[t]? with
        | none => rw [hq2] at hq; cases hq
        | some d2 =>
          rw [hq2] at hq hg
          simp only [Option.map_some, Option.some.injEq, Option.getD_some] at hq hg
          by_cases hk : keep.contains (0 + t) = true
          · rw [if_pos hk] at hq
            subst hq
            rcases hall with hall | hall
            · exact RelD.alike hdown _ _ hall hg
            · exact RelD.alike hdown _ _ (hDtrue _ hall) hg
          · rw [if_neg hk] at hq
            subst hq
            trivial
    | const v => exact RelD.lit v
    | global g => trivial
    | func f =>
      show RelC _ _ _ _ _ _
      simp only [RelC, RelL]
      exact ⟨#[], rfl, rfl⟩
  refine stepx_put hH' hfr' hρ h hps fun v β' S' w' hd hH2 hext hevo honly => ?_
  -- the view upwards
  have hl2 : base ≤ hp2.length := by rw [← hMlen]; exact hext.len
  have hhid : ∀ id, hide.contains id = true → wr.contains id = false ∧ id < base := hhide
  have hA : ∀ id, hide.contains id = false → id < hp2.length → (over wr 0 hp2 hp)[id]? = hp2[id]? := fun id h1 h2 => by
    rw [over_get]
    simp only [Nat.zero_add]
    by_cases hlt : id < hp.length
    · rw [if_pos hlt]
      by_cases hw : wr.contains id = true
      · rw [if_pos ⟨h2, hw⟩]
      · rw [if_neg (fun hh => hw hh.2)]
        have hb : id < base := by rcases hlen with hlen | hlen <;> omega
        rw [hwr id (by simpa using hw) hb, hMget id hb]
        have h1' : ¬ id ∈ hide := by simpa using h1
        simp [h1', Option.map_id']
    · rw [if_neg hlt]
  have hB : ∀ id, (hide.contains id = true ∨ hp2.length ≤ id) → (over wr 0 hp2 hp)[id]? = hp[id]? := fun id hid => by
    rw [over_get]
    simp only [Nat.zero_add]
    rcases hid with hid | hid
    · obtain ⟨q1, q2⟩ := hhid id hid
      rw [if_pos (by omega), if_neg (fun hh => by rw [q1] at hh; cases hh.2)]
    · by_cases hlt : id < hp.length
      · rw [if_pos hlt, if_neg (fun hh => by omega)]
      · rw [if_neg hlt, List.getElem?_eq_none (by omega), List.getElem?_eq_none (by omega)]
  generalize hX : over wr 0 hp2 hp = hpX at *
  have hXlen : hpX.length = max hp2.length hp.length := by rw [← hX, over_length]
  let β3 : Nat → Option (Nat × Nat) := fun id => if hide.contains id = false ∧ id < hp2.length then β' id else β id
  have hβ1 : ∀ id, hide.contains id = false → id < hp2.length → β3 id = β' id := fun id h1 h2 => if_pos ⟨h1, h2⟩
  have hβ2 : ∀ id, (hide.contains id = true ∨ hp2.length ≤ id) → β3 id = β id := fun id hid => if_neg (fun hh => by rcases hid with hid | hid; rw [hh.1] at hid; cases hid; omega)
  have hsplit : ∀ id, (hide.contains id = false ∧ id < hp2.length) ∨ (hide.contains id = true ∨ hp2.length ≤ id) := fun id => by
    cases hh : hide.contains id with
    | true => exact .inr (.inl rfl)
    | false => by_cases hl : id < hp2.length; exact .inl ⟨rfl, hl⟩; exact .inr (.inr (by omega))
  have hExt : Ext β hp S β3 hpX S' := by
    refine ⟨by rw [hXlen]; omega, fun id sz ver cs fz hlt hid => ?_, hext.sub⟩
    rcases hsplit id with ⟨h1, h2⟩ | h1
    · rw [hA id h1 h2] at hid
      have hb : id < base := by rcases hlen with hlen | hlen <;> omega
      obtain ⟨v0, c0, f0, e1, e2, e3⟩ := hext.ids id sz ver cs fz (by rw [hMlen]; exact hb) hid
      exact ⟨v0, c0, f0, (hMcells _ _ _ _ _ e1).2.2, e2, fun he => ⟨(e3 he).1, by rw [hβ1 id h1 h2]; exact (e3 he).2⟩⟩
    · rw [hB id h1] at hid
      exact ⟨ver, cs, fz, hid, Nat.le_refl _, fun _ => ⟨Nat.le_refl _, hβ2 id h1⟩⟩
  have hEvo : Evo Wr S w w' := ⟨hevo.os, hevo.tape, hevo.output, hevo.size, fun b hb hn => hevo.block b hb fun hh => hn hh.1, hevo.imm, hevo.shape⟩
  obtain ⟨f2, hf2, hd2, hob2⟩ : ∃ f2 : Nat → Bool, (∀ id, f2 id = true → hide.contains id = false) ∧ allD f2 d = true ∧ (∀ (i : Nat) ob, hp2[i]? = some ob → allOb f2 ob = true ∨ ∀ i, f2 i = true) := by
    rcases hchk2 with hh | ⟨h1, h2⟩
    · exact ⟨fun _ => true, fun id _ => by rw [hh]; rfl, hDtrue d fun _ => rfl, fun _ _ _ => .inr fun _ => rfl⟩
    · exact ⟨fun i => !hide.contains i, fun id hid => by simpa using hid, h1, fun i ob hob => .inl (allObs_get h2 i ob hob)⟩
  have hup : Alike f2 β' hp2 β3 hpX := fun id hf hlt => by
    have hh := hf2 id hf
    refine ⟨by rw [hXlen]; omega, fun sz ver cs fz hid => ?_⟩
    rw [hA id hh hlt] at hid
    exact ⟨hid, hβ1 id hh hlt⟩
  have hHX : HRel β3 hpX S' w' Wr := by
    refine ⟨fun id sz ver cs fz hid => ?_, fun id id' sz ver cs fz sz' ver' cs' fz' b o1 o2 h1 h2 h3 h4 => ?_, hH2.imm⟩
    · rcases hsplit id with ⟨h1, h2⟩ | h1
      · rw [hA id h1 h2] at hid
        obtain ⟨k0, k⟩ := hH2.cells id sz ver cs fz hid
        refine ⟨k0, ?_⟩
        rw [hβ1 id h1 h2]
        rcases k with k | ⟨b, o', arr, e, k1, k2, k3, k4, k5, k6⟩
        · exact .inl k
        · refine .inr ⟨b, o', arr, e, k1, k2, k3.1, k4, fun j c hj => ?_, k6⟩
          obtain ⟨u, u1, u2⟩ := k5 j c hj
          refine ⟨u, u1, ?_⟩
          by_cases hv : ver = 0
          · subst hv
            rcases hob2 id _ hid with hall | hall
            · simp only [allOb] at hall
              exact RelC.alike hup c u (allL_mem hall c (List.mem_of_getElem? hj)) u2
            · exact RelC.alike hup c u (allC_true hall c) u2
          · have hp0 := RelC.plain c u (k0.2 hv c (List.mem_of_getElem? hj)) u2
            exact hp0.rel c u
      · rw [hB id h1] at hid
        obtain ⟨k0, k⟩ := hs.heap.cells id sz ver cs fz hid
        refine ⟨k0, ?_⟩
        rw [hβ2 id h1]
        rcases k with k | ⟨b, o', arr, e, k1, k2, k3, k4, k5, k6⟩
        · exact .inl k
        · have hbs := hblk id sz ver cs fz b o' hid k1
          have hnw : ¬ Wr' b := fun hh => hh.2 id sz ver cs fz o' hid (by rcases h1 with h1 | h1; exact .inl h1; exact .inr (by omega)) k1
          have hsame := hevo.block b hbs hnw
          refine .inr ⟨b, o', arr, e, k1, by rw [hsame]; exact k2, k3, k4, fun j c hj => ?_, fun k' hk' => ?_⟩
          · obtain ⟨u, u1, u2⟩ := k5 j c hj
            refine ⟨u, ?_, RelC.step hExt hEvo c u u2⟩
            rw [← u1]
            exact cell_of_heap hsame _
          · rcases honly b k' hk' with hk' | hk'
            · exact k6 k' hk'
            · exact absurd hk' hnw
    · rcases hsplit id with ⟨p1, p2⟩ | p1 <;> rcases hsplit id' with ⟨q1, q2⟩ | q1
      · rw [hA id p1 p2] at h1; rw [hA id' q1 q2] at h2; rw [hβ1 id p1 p2] at h3; rw [hβ1 id' q1 q2] at h4
        exact hH2.inj _ _ _ _ _ _ _ _ _ _ _ _ _ h1 h2 h3 h4
      · rw [hA id p1 p2] at h1; rw [hB id' q1] at h2; rw [hβ1 id p1 p2] at h3; rw [hβ2 id' q1] at h4
        exfalso
        obtain ⟨_, k⟩ := hH2.cells _ _ _ _ _ h1
        rcases k with k | ⟨b', o', arr, e, k1, k2, k3, _⟩
        · rw [h3] at k; cases k.1
        · rw [h3] at k1
          simp only [Option.some.injEq, Prod.mk.injEq] at k1
          obtain ⟨rfl, rfl⟩ := k1
          exact k3.2 id' _ _ _ _ o2 h2 (by rcases q1 with q1 | q1; exact .inl q1; exact .inr (by omega)) h4
      · rw [hB id p1] at h1; rw [hA id' q1 q2] at h2; rw [hβ2 id p1] at h3; rw [hβ1 id' q1 q2] at h4
        exfalso
        obtain ⟨_, k⟩ := hH2.cells _ _ _ _ _ h2
        rcases k with k | ⟨b', o', arr, e, k1, k2, k3, _⟩
        · rw [h4] at k; cases k.1
        · rw [h4] at k1
          simp only [Option.some.injEq, Prod.mk.injEq] at k1
          obtain ⟨rfl, rfl⟩ := k1
          exact k3.2 id _ _ _ _ o1 h1 (by rcases p1 with p1 | p1; exact .inl p1; exact .inr (by omega)) h3
      · rw [hB id p1] at h1; rw [hB id' q1] at h2; rw [hβ2 id p1] at h3; rw [hβ2 id' q1] at h4
        exact hs.heap.inj _ _ _ _ _ _ _ _ _ _ _ _ _ h1 h2 h3 h4
  refine hK β3 S' (a.put o.dst v) w' ⟨put_rel (RelDs.step hExt hEvo _ _ hs.slots) (RelD.alike hup d v hd2 hd) o.dst, hHX, fun b hb => hs.fresh b (Nat.le_trans hevo.size hb), by rw [hXlen]; have := hs.base; omega, by rw [put_defers]; exact hs.defers⟩
    ⟨hExt.toB hs.base, hEvo, fun b k hk => by rcases honly b k hk with hk | hk; exact .inl hk; exact .inr hk.1⟩

end Go.Vm
