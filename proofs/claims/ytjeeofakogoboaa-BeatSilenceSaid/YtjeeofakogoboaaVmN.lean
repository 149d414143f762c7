/- The small machine's memory behind a call. It states nothing of any program. -/
import Derived.Test.YtjeeofakogoboaaVmM
namespace Go.Vm
set_option linter.unusedVariables false
set_option linter.unusedSimpArgs false

/-- The blocks that a callee may write. -/
def WC (Wr : Nat → Prop) (β : Nat → Option (Nat × Nat)) (hp : List Ob) (w : World) (pick : List Nat) (b : Nat) : Prop :=
  Wr b ∧ (w.heap.size ≤ b ∨ ∃ id sz ver cs fz o, id ∈ pick ∧ hp[id]? = some (.cells sz ver cs fz) ∧ β id = some (b, o))

def S1 (frz : Bool) (S' S : Nat → Nat → Prop) (W : Nat → Prop) (b k : Nat) : Prop := S' b k ∧ (frz = true ∨ S b k ∨ W b)

def β1 (β β' : Nat → Option (Nat × Nat)) (pick : List Nat) (n : Nat) (i : Nat) : Option (Nat × Nat) :=
  match idx pick i with
  | some j => β' j
  | none => if i < n then β i else β' (pick.length + (i - n))

section
variable {β : Nat → Option (Nat × Nat)} {hp : List Ob} {S : Nat → Nat → Prop} {w w' : World} {Wr : Nat → Prop}

theorem call_ready (h : HRel β hp S w Wr) {pick lend : List Nat} {H0 : List Ob} (hn : pick.Nodup) (hH : expObs pick lend hp pick = some H0) :
    HRel (fun j => (pick[j]?).bind β) H0 (SC β hp S pick lend) w (WC Wr β hp w pick) := by
  obtain ⟨hl, hg⟩ := expObs_get hH
  have hget : ∀ (j sz ver : Nat) (cs' : List C) (fz : Bool), H0[j]? = some (.cells sz ver cs' fz) → ∃ id cs, pick[j]? = some id ∧ hp[id]? = some (.cells sz ver cs fz) ∧ cs'.length = cs.length ∧ ((ver = 0 ∧ expL pick lend hp cs = some cs') ∨ (ver ≠ 0 ∧ cs' = cs)) := by
    intro j sz ver cs' fz hj
    have hlt : j < pick.length := by rw [← hl]; exact (List.getElem?_eq_some_iff.1 hj).1
    obtain ⟨ob, ob', g1, g2, g3⟩ := hg j pick[j] (List.getElem?_eq_getElem hlt)
    rw [g3] at hj
    injection hj with hj
    subst hj
    obtain ⟨cs, e1, e2, e3⟩ := expOb_cells g2
    subst e1
    exact ⟨pick[j], cs, List.getElem?_eq_getElem hlt, g1, e2, e3⟩
  refine ⟨fun j sz ver cs' fz hj => ?_, fun j j' sz ver cs fz sz' ver' cs' fz' b o o' h1 h2 h3 h4 => ?_, fun b k hs => ?_⟩
  · obtain ⟨id, cs, g1, g2, g3, g4⟩ := hget j sz ver cs' fz hj
    obtain ⟨⟨hsz, hpl⟩, h'⟩ := h.cells id sz ver cs fz g2
    refine ⟨⟨hsz, fun hv => ?_⟩, ?_⟩
    · rcases g4 with ⟨hv0, _⟩ | ⟨_, e⟩
      · exact absurd hv0 hv
      · rw [e]; exact hpl hv
    · simp only [g1, Option.bind_some]
      rcases h' with h' | ⟨b, o, arr, e, k1, k2, k3, k4, k5, k6⟩
      · exact .inl ⟨h'.1, List.eq_nil_of_length_eq_zero (by rw [g3, h'.2]; rfl)⟩
      · refine .inr ⟨b, o, arr, e, k1, k2, ⟨k3, .inr ⟨id, sz, ver, cs, fz, o, List.mem_of_getElem? g1, g2, k1⟩⟩, by omega, ?_, ?_⟩
        · rcases g4 with ⟨hv0, hexp⟩ | ⟨hv0, he⟩
          · obtain ⟨us, u1, u2⟩ := (show Lies β hp S w cs b o from k5).values
            have hr := expL_sound h hH cs cs' us u1 hexp
            intro jj c hc
            obtain ⟨u, m1, m2⟩ := hr.get jj c hc
            exact ⟨u, u2 jj u m1, m2⟩
          · subst he
            intro jj c hc
            obtain ⟨u, m1, m2⟩ := (show Lies β hp S w cs' b o from k5).plain (hpl hv0) jj c hc
            exact ⟨u, m1, RelP.rel c u (RelP.step (fun b k hs => .inl hs) (fun _ _ _ => rfl) c u m2)⟩
        · intro k hs
          rcases hs with hs | ⟨id2, sz2, ver2, cs2, fz2, o2, q1, q2, q3, q4, q5, q6, q7⟩
          · have := k6 k hs
            split
            · rename_i hfz; rw [hfz] at this; simp at this; rw [g3]; exact this
            · rename_i hfz; simp [hfz] at this; exact this
          · exact absurd (List.mem_of_getElem? g1) (h.inj id2 id _ _ _ _ _ _ _ _ b o2 o q3 g2 q5 k1 ▸ q1)
  · obtain ⟨id, cs0, g1, g2, _⟩ := hget j sz ver cs fz h1
    obtain ⟨id', cs0', g1', g2', _⟩ := hget j' sz' ver' cs' fz' h2
    simp only [g1, Option.bind_some] at h3
    simp only [g1', Option.bind_some] at h4
    have e := h.inj id id' _ _ _ _ _ _ _ _ b o o' g2 g2' h3 h4
    subst e
    have e1 := idx_get hn g1
    have e2 := idx_get hn g1'
    rw [e1] at e2
    injection e2
  · rcases hs with hs | ⟨id2, sz2, ver2, cs2, fz2, o2, q1, q2, q3, q4, q5, q6, q7⟩
    · exact h.imm b k hs
    · obtain ⟨_, h'⟩ := h.cells id2 _ _ _ _ q3
      rcases h' with h' | ⟨b', o', arr, e, k1, k2, _⟩
      · rw [h'.1] at q5; cases q5
      · rw [k1] at q5; injection q5 with q5; injection q5 with q5 _; subst q5
        exact (Array.getElem?_eq_some_iff.1 k2).1

variable {β' : Nat → Option (Nat × Nat)} {H' : List Ob} {S' : Nat → Nat → Prop}

theorem pk_idx {pick : List Nat} {n j : Nat} (hn : pick.Nodup) (hlt : ∀ id ∈ pick, id < n) :
    (j < pick.length ∧ idx pick (pk pick n j) = some j ∧ pk pick n j < n) ∨ (pick.length ≤ j ∧ idx pick (pk pick n j) = none ∧ pk pick n j = n + (j - pick.length)) := by
  unfold pk
  by_cases hj : j < pick.length
  · rw [if_pos hj]
    have hg : pick[j]? = some (pick.getD j 0) := by simp [List.getD, List.getElem?_eq_getElem hj]
    exact .inl ⟨hj, idx_get hn hg, hlt _ (List.mem_of_getElem? hg)⟩
  · rw [if_neg hj]
    refine .inr ⟨by omega, ?_, rfl⟩
    cases hi : idx pick (n + (j - pick.length)) with
    | none => rfl
    | some k => have := hlt _ (List.mem_of_getElem? (idx_some hi)); omega

theorem back_pk {pick lend : List Nat} {frz : Bool} {hp H' : List Ob} (hn : pick.Nodup) (hlt : ∀ id ∈ pick, id < hp.length) (hm : pick.length ≤ H'.length) (j : Nat) (hj : j < H'.length) :
    (back pick lend frz hp H')[pk pick hp.length j]? = (H'[j]?).map (impOb pick hp.length) := by
  rcases pk_idx (j := j) hn hlt with ⟨h1, h2, h3⟩ | ⟨h1, h2, h3⟩
  · rw [back_old h3, h2, List.getElem?_eq_getElem h3]
    simp [List.getElem?_eq_getElem hj]
  · rw [h3, back_new (by omega)]
    rw [show pick.length + (hp.length + (j - pick.length) - hp.length) = j by omega]

theorem β1_pk {pick : List Nat} {n : Nat} (hn : pick.Nodup) (hlt : ∀ id ∈ pick, id < n) (j : Nat) : β1 β β' pick n (pk pick n j) = β' j := by
  unfold β1
  rcases pk_idx (j := j) hn hlt with ⟨h1, h2, h3⟩ | ⟨h1, h2, h3⟩
  · rw [h2]
  · rw [h2, h3]
    simp only
    rw [if_neg (by omega), show pick.length + (n + (j - pick.length) - n) = j by omega]

mutual
theorem impC_sound {pick lend : List Nat} {frz : Bool} {W : Nat → Prop} (hn : pick.Nodup) (hlt : ∀ id ∈ pick, id < hp.length) (hm : pick.length ≤ H'.length) : ∀ (c : C) (u : Value), RelC β' H' S' w' c u → (frz = true ∨ noS c = true) →
    RelC (β1 β β' pick hp.length) (back pick lend frz hp H') (S1 frz S' S W) w' (impC pick hp.length c) u
  | .sc v, u, hr, _ => by simp only [impC, RelC, RelP] at hr ⊢; exact hr
  | .dead, u, hr, _ => by simp only [impC, RelC, RelP] at hr ⊢; exact hr
  | .sl n cs, u, hr, hf => by
    have hfz : frz = true := by rcases hf with hf | hf; exact hf; simp [noS] at hf
    simp only [impC, RelC] at hr ⊢
    exact RelP.step (fun b k hs => ⟨hs, .inl hfz⟩) (fun _ _ _ => rfl) _ _ hr
  | .loc cs off, u, hr, hf => by
    have hfz : frz = true := by rcases hf with hf | hf; exact hf; simp [noS] at hf
    simp only [impC, RelC] at hr ⊢
    exact RelP.step (fun b k hs => ⟨hs, .inl hfz⟩) (fun _ _ _ => rfl) _ _ hr
  | .fn f caps, u, hr, hf => by
    simp only [impC, RelC] at hr ⊢
    obtain ⟨us, h1, h2⟩ := hr
    exact ⟨us, h1, impL_sound hn hlt hm caps us.toList h2 (by rcases hf with hf | hf; exact .inl hf; exact .inr (by simpa [noS] using hf))⟩
  | .ar id ver off n, u, hr, _ => by
    simp only [impC, RelC] at hr ⊢
    obtain ⟨hu, hid, hs⟩ := hr
    refine ⟨hu, ?_, fun sz ver' cs fz hc => ?_⟩
    · have := back_pk (lend := lend) (frz := frz) hn hlt hm id hid
      rw [List.getElem?_eq_getElem hid] at this
      exact (List.getElem?_eq_some_iff.1 this).1
    · rw [back_pk hn hlt hm id hid] at hc
      obtain ⟨ob, g1, g2⟩ := Option.map_eq_some_iff.1 hc
      cases ob with
      | gone => simp [impOb] at g2
      | cells sz0 ver0 cs0 fz0 =>
        simp only [impOb, Ob.cells.injEq] at g2
        obtain ⟨rfl, rfl, g3, rfl⟩ := g2
        obtain ⟨q1, q2⟩ := hs sz0 ver0 cs0 fz0 g1
        refine ⟨q1, fun e => ?_⟩
        obtain ⟨q3, q4⟩ := q2 e
        have hlen : cs.length = cs0.length := by rw [← g3]; split <;> simp [impL_eq]
        refine ⟨by rw [hlen]; exact q3, ?_⟩
        rcases q4 with q4 | ⟨b, o, cap, e', arr, q5, q6⟩
        · exact .inl q4
        · exact .inr ⟨b, o, cap, e', arr, by rw [β1_pk hn hlt]; exact q5, q6⟩
  | .ptr id ver off, u, hr, _ => by
    simp only [impC, RelC] at hr ⊢
    obtain ⟨hu, hid, hs⟩ := hr
    refine ⟨hu, ?_, fun sz ver' cs fz hc => ?_⟩
    · have := back_pk (lend := lend) (frz := frz) hn hlt hm id hid
      rw [List.getElem?_eq_getElem hid] at this
      exact (List.getElem?_eq_some_iff.1 this).1
    · rw [back_pk hn hlt hm id hid] at hc
      obtain ⟨ob, g1, g2⟩ := Option.map_eq_some_iff.1 hc
      cases ob with
      | gone => simp [impOb] at g2
      | cells sz0 ver0 cs0 fz0 =>
        simp only [impOb, Ob.cells.injEq] at g2
        obtain ⟨rfl, rfl, g3, rfl⟩ := g2
        obtain ⟨q1, q2⟩ := hs sz0 ver0 cs0 fz0 g1
        refine ⟨q1, fun e => ?_⟩
        obtain ⟨b, o, q5, q6⟩ := q2 e
        exact ⟨b, o, by rw [β1_pk hn hlt]; exact q5, q6⟩
theorem impL_sound {pick lend : List Nat} {frz : Bool} {W : Nat → Prop} (hn : pick.Nodup) (hlt : ∀ id ∈ pick, id < hp.length) (hm : pick.length ≤ H'.length) : ∀ (cs : List C) (us : List Value), RelL β' H' S' w' cs us → (frz = true ∨ noSs cs = true) →
    RelL (β1 β β' pick hp.length) (back pick lend frz hp H') (S1 frz S' S W) w' (impL pick hp.length cs) us
  | [], us, hr, _ => by simp only [impL, RelL] at hr ⊢; exact hr
  | c :: cs, us, hr, hf => by
    simp only [impL, RelL] at hr ⊢
    obtain ⟨u, us', e1, e2, e3⟩ := hr
    have h1 : frz = true ∨ noS c = true := by rcases hf with hf | hf; exact .inl hf; simp [noSs] at hf; exact .inr hf.1
    have h2 : frz = true ∨ noSs cs = true := by rcases hf with hf | hf; exact .inl hf; simp [noSs] at hf; exact .inr hf.2
    exact ⟨u, us', e1, impC_sound hn hlt hm c u e2 h1, impL_sound hn hlt hm cs us' e3 h2⟩
end

theorem impV_sound {pick lend : List Nat} {frz : Bool} {W : Nat → Prop} (hn : pick.Nodup) (hlt : ∀ id ∈ pick, id < hp.length) (hm : pick.length ≤ H'.length) (x : V) (u : Value) (hr : RelV β' H' S' w' x u) (hf : frz = true ∨ NoSV x) :
    RelV (β1 β β' pick hp.length) (back pick lend frz hp H') (S1 frz S' S W) w' (impV pick hp.length x) u := by
  cases x with
  | one c => exact impC_sound hn hlt hm c u hr hf
  | agg cs => obtain ⟨us, h1, h2⟩ := hr; exact ⟨us, h1, impL_sound hn hlt hm cs _ h2 hf⟩

theorem impD_sound {pick lend : List Nat} {frz : Bool} {W : Nat → Prop} (hn : pick.Nodup) (hlt : ∀ id ∈ pick, id < hp.length) (hm : pick.length ≤ H'.length) (x : D) (u : Value) (hr : RelD β' H' S' w' x u) (hf : frz = true ∨ NoSD x) :
    RelD (β1 β β' pick hp.length) (back pick lend frz hp H') (S1 frz S' S W) w' (impD pick hp.length x) u := by
  cases x with
  | v x => exact impV_sound hn hlt hm x u hr hf
  | dead => trivial
  | tup xs =>
    obtain ⟨us, h1, h2⟩ := hr
    refine ⟨us, h1, ?_⟩
    have hf' : frz = true ∨ ∀ x ∈ xs, NoSV x := hf
    clear hf
    generalize us.toList = vs at h2
    clear h1
    induction xs generalizing vs with
    | nil => exact h2
    | cons x xs ih =>
      obtain ⟨v, vs', e1, e2, e3⟩ := h2
      refine ⟨v, vs', e1, impV_sound hn hlt hm x v e2 (by rcases hf' with hf' | hf'; exact .inl hf'; exact .inr (hf' x (.head _))), ?_⟩
      exact ih (by rcases hf' with hf' | hf'; exact .inl hf'; exact .inr (fun y hy => hf' y (.tail _ hy))) vs' e3

/-- Behind the call. -/
theorem call_back (h : HRel β hp S w Wr) (hfr : ∀ b, w.heap.size ≤ b → Wr b) {pick lend : List Nat} {frz : Bool} {H0 : List Ob} (hn : pick.Nodup) (hH : expObs pick lend hp pick = some H0)
    (h' : HRel β' H' S' w' (WC Wr β hp w pick)) (hg : Gone (WC Wr β hp w pick) H0.length H0 (fun j => (pick[j]?).bind β) (SC β hp S pick lend) w H' β' S' w') (hns : frz = true ∨ ∀ ob ∈ H', NoSOb ob) :
    HRel (β1 β β' pick hp.length) (back pick lend frz hp H') (S1 frz S' S (WC Wr β hp w pick)) w' Wr ∧ Ext β hp S (β1 β β' pick hp.length) (back pick lend frz hp H') (S1 frz S' S (WC Wr β hp w pick)) ∧ Evo Wr S w w' ∧
      (∀ b k, S1 frz S' S (WC Wr β hp w pick) b k → S b k ∨ Wr b) := by
  obtain ⟨hl, hgt⟩ := expObs_get hH
  have hlt : ∀ id ∈ pick, id < hp.length := fun id hid => by
    obtain ⟨j, hj, rfl⟩ := List.mem_iff_getElem.1 hid
    obtain ⟨ob, _, g1, _⟩ := hgt j pick[j] (List.getElem?_eq_getElem hj)
    exact (List.getElem?_eq_some_iff.1 g1).1
  have hm : pick.length ≤ H'.length := by rw [← hl]; exact hg.ext.len
  have hblk : ∀ id sz ver cs fz b o, hp[id]? = some (.cells sz ver cs fz) → β id = some (b, o) → b < w.heap.size := fun id sz ver cs fz b o h1 h2 => h.block_lt h1 h2
  have hlent : ∀ b k, Lent β hp pick lend b k → Wr b := fun b k ⟨id2, sz2, ver2, cs2, fz2, o2, q1, q2, q3, q4, q5, q6, q7⟩ => by
    obtain ⟨_, hc⟩ := h.cells id2 _ _ _ _ q3
    rcases hc with hc | ⟨b', o', arr, e, k1, k2, k3, _⟩
    · rw [hc.1] at q5; cases q5
    · rw [k1] at q5; injection q5 with q5; injection q5 with q5 _; rw [← q5]; exact k3
  have hsub : ∀ b k, S b k → S1 frz S' S (WC Wr β hp w pick) b k := fun b k hs => ⟨hg.ext.sub b k (.inl hs), .inr (.inl hs)⟩
  have hevo : Evo Wr S w w' := ⟨hg.evo.os, hg.evo.tape, hg.evo.output, hg.evo.size, fun b hb hw => hg.evo.block b hb (fun hc => hw hc.1), fun b k hs => hg.evo.imm b k (.inl hs), hg.evo.shape⟩
  -- what is not picked
  have hkeep : ∀ i sz ver cs fz b o, idx pick i = none → hp[i]? = some (.cells sz ver cs fz) → β i = some (b, o) → ¬ WC Wr β hp w pick b := by
    intro i sz ver cs fz b o hi h1 h2 hc
    have hb := hblk i _ _ _ _ b o h1 h2
    rcases hc.2 with hc | ⟨id2, sz2, ver2, cs2, fz2, o2, q1, q2, q3⟩
    · omega
    · exact idx_none hi (h.inj id2 i _ _ _ _ _ _ _ _ b o2 o q2 h1 q3 h2 ▸ q1)
  have hold : ∀ i sz ver cs fz, i < hp.length → (back pick lend frz hp H')[i]? = some (.cells sz ver cs fz) →
      (idx pick i = none ∧ ∃ fz0, hp[i]? = some (.cells sz ver cs fz0) ∧ fz = (fz0 || (frz && lend.contains i)) ∧ β1 β β' pick hp.length i = β i) ∨
      (∃ j cs0, idx pick i = some j ∧ j < H'.length ∧ H'[j]? = some (.cells sz ver cs0 fz) ∧ cs = (if ver = 0 then impL pick hp.length cs0 else cs0) ∧ β1 β β' pick hp.length i = β' j) := by
    intro i sz ver cs fz hi hc
    rw [back_old hi, List.getElem?_eq_getElem hi] at hc
    simp only [Option.map_some, Option.some.injEq] at hc
    cases hx : idx pick i with
    | none =>
      rw [hx] at hc
      simp only at hc
      cases hob : hp[i] with
      | gone => rw [hob] at hc; simp [frzOb] at hc
      | cells sz0 ver0 cs0 fz0 =>
        rw [hob] at hc
        simp only [frzOb, Ob.cells.injEq] at hc
        obtain ⟨rfl, rfl, rfl, rfl⟩ := hc
        exact .inl ⟨rfl, fz0, by rw [List.getElem?_eq_getElem hi, hob], rfl, by simp [β1, hx, hi]⟩
    | some j =>
      rw [hx] at hc
      simp only at hc
      have hj : j < H'.length := Nat.lt_of_lt_of_le (List.getElem?_eq_some_iff.1 (idx_some hx)).1 hm
      rw [List.getElem?_eq_getElem hj] at hc
      simp only at hc
      cases hob : H'[j] with
      | gone => rw [hob] at hc; simp [impOb] at hc
      | cells sz0 ver0 cs0 fz0 =>
        rw [hob] at hc
        simp only [impOb, Ob.cells.injEq] at hc
        obtain ⟨rfl, rfl, rfl, rfl⟩ := hc
        exact .inr ⟨j, cs0, rfl, hj, by rw [List.getElem?_eq_getElem hj, hob], rfl, by simp [β1, hx]⟩
  have hnew : ∀ i sz ver cs fz, hp.length ≤ i → (back pick lend frz hp H')[i]? = some (.cells sz ver cs fz) →
      ∃ j cs0, j = pick.length + (i - hp.length) ∧ H'[j]? = some (.cells sz ver cs0 fz) ∧ cs = (if ver = 0 then impL pick hp.length cs0 else cs0) ∧ β1 β β' pick hp.length i = β' j := by
    intro i sz ver cs fz hi hc
    rw [back_new hi] at hc
    obtain ⟨ob, g1, g2⟩ := Option.map_eq_some_iff.1 hc
    cases ob with
    | gone => simp [impOb] at g2
    | cells sz0 ver0 cs0 fz0 =>
      simp only [impOb, Ob.cells.injEq] at g2
      obtain ⟨rfl, rfl, rfl, rfl⟩ := g2
      have hx : idx pick i = none := by
        cases hx : idx pick i with
        | none => rfl
        | some k => have := hlt _ (List.mem_of_getElem? (idx_some hx)); omega
      exact ⟨_, cs0, rfl, g1, rfl, by simp [β1, hx]; omega⟩
  have hext : Ext β hp S (β1 β β' pick hp.length) (back pick lend frz hp H') (S1 frz S' S (WC Wr β hp w pick)) := by
    refine ⟨?_, fun id sz ver cs' fz' hid hc => ?_, hsub⟩
    · unfold back; rw [List.length_append, backGo_length]; omega
    · rcases hold id sz ver cs' fz' hid hc with ⟨q1, fz0, q2, q3, q4⟩ | ⟨j, cs0, q1, q2, q3, q4, q5⟩
      · exact ⟨ver, cs', fz0, q2, Nat.le_refl _, fun _ => ⟨Nat.le_refl _, q4⟩⟩
      · have hp2 := idx_some q1
        have hj : j < H0.length := by rw [hl]; exact (List.getElem?_eq_some_iff.1 hp2).1
        obtain ⟨ver0, cs1, fz1, r1, r2, r3⟩ := hg.ext.ids j sz ver cs0 fz' hj q3
        obtain ⟨ob, ob', g1, g2, g3⟩ := hgt j id hp2
        rw [g3] at r1
        injection r1 with r1
        subst r1
        obtain ⟨cs2, e1, e2, _⟩ := expOb_cells g2
        subst e1
        refine ⟨ver0, cs2, fz1, g1, r2, fun e => ?_⟩
        obtain ⟨r4, r5⟩ := r3 e
        have hlen : cs'.length = cs0.length := by rw [q4]; split <;> simp [impL_eq]
        refine ⟨by omega, by rw [q5, r5]; simp [hp2]⟩
  have himp : ∀ (ver : Nat) (cs0 : List C) (b o j sz : Nat) (fz : Bool), H'[j]? = some (.cells sz ver cs0 fz) → (ver ≠ 0 → ∀ c ∈ cs0, plain c = true) → (∀ jj c, cs0[jj]? = some c → ∃ u, w'.cell? ⟨b, o + jj, none⟩ = some u ∧ RelC β' H' S' w' c u) →
      ∀ jj c, (if ver = 0 then impL pick hp.length cs0 else cs0)[jj]? = some c → ∃ u, w'.cell? ⟨b, o + jj, none⟩ = some u ∧ RelC (β1 β β' pick hp.length) (back pick lend frz hp H') (S1 frz S' S (WC Wr β hp w pick)) w' c u := by
    intro ver cs0 b o j sz fz hj hpl hk jj c hc
    have hnoS : ∀ c ∈ cs0, frz = true ∨ noS c = true := fun c hc => by
      rcases hns with hns | hns
      · exact .inl hns
      · exact .inr (hns _ (List.mem_of_getElem? hj) c hc)
    split at hc
    · rw [impL_eq, List.getElem?_map] at hc
      obtain ⟨c0, h1, rfl⟩ := Option.map_eq_some_iff.1 hc
      obtain ⟨u, m1, m2⟩ := hk jj c0 h1
      exact ⟨u, m1, impC_sound hn hlt hm c0 u m2 (hnoS c0 (List.mem_of_getElem? h1))⟩
    · rename_i hv
      obtain ⟨u, m1, m2⟩ := hk jj c hc
      refine ⟨u, m1, ?_⟩
      have hcp := hpl hv c (List.mem_of_getElem? hc)
      have hns' := hnoS c (List.mem_of_getElem? hc)
      have hmain := impC_sound (β := β) (S := S) (lend := lend) (W := WC Wr β hp w pick) hn hlt hm c u m2 hns'
      have hid : ∀ c : C, plain c = true → impC pick hp.length c = c := by
        intro c
        refine C.rec (motive_1 := fun c => plain c = true → impC pick hp.length c = c) (motive_2 := fun cs => plains cs = true → impL pick hp.length cs = cs) ?_ ?_ ?_ ?_ ?_ ?_ ?_ ?_ ?_ c
        · intros; rfl
        · intros; rfl
        · intros; rfl
        · intro _ _ _ _ hh; simp [plain] at hh
        · intro _ _ _ hh; simp [plain] at hh
        · intro f caps ih hh; simp only [impC]; rw [ih (by simpa [plain] using hh)]
        · intros; rfl
        · intros; rfl
        · intro c cs ih1 ih2 hh; simp only [plains, Bool.and_eq_true] at hh; simp only [impL]; rw [ih1 hh.1, ih2 hh.2]
      rw [hid c hcp] at hmain
      exact hmain
  refine ⟨⟨fun i sz ver cs fz hi => ?_, fun i i' sz1 ver1 cs1 fz1 sz2 ver2 cs2 fz2 b o o' g1 g2 g3 g4 => ?_, fun b k hs => h'.imm b k hs.1⟩, hext, hevo, fun b k hs => ?_⟩
  · have hcal : ∀ j cs0, H'[j]? = some (.cells sz ver cs0 fz) → cs = (if ver = 0 then impL pick hp.length cs0 else cs0) → β1 β β' pick hp.length i = β' j →
        (0 < sz ∧ (ver ≠ 0 → ∀ c ∈ cs, plain c = true)) ∧ ((β1 β β' pick hp.length i = none ∧ cs = []) ∨ ∃ b o arr e, β1 β β' pick hp.length i = some (b, o) ∧ w'.heap[b]? = some (.cells arr e (0, 0)) ∧ Wr b ∧ o + cs.length ≤ arr.size ∧
          (∀ j c, cs[j]? = some c → ∃ u, w'.cell? ⟨b, o + j, none⟩ = some u ∧ RelC (β1 β β' pick hp.length) (back pick lend frz hp H') (S1 frz S' S (WC Wr β hp w pick)) w' c u) ∧ (∀ k, S1 frz S' S (WC Wr β hp w pick) b k → k < o + (if fz then cs.length else 0))) := by
      intro j cs0 hj hcs hβ
      obtain ⟨⟨hsz, hpl⟩, hc⟩ := h'.cells j sz ver cs0 fz hj
      have hlen : cs.length = cs0.length := by rw [hcs]; split <;> simp [impL_eq]
      refine ⟨⟨hsz, fun hv => by rw [hcs, if_neg hv]; exact hpl hv⟩, ?_⟩
      rw [hβ]
      rcases hc with hc | ⟨b, o, arr, e, k1, k2, k3, k4, k5, k6⟩
      · exact .inl ⟨hc.1, List.eq_nil_of_length_eq_zero (by rw [hlen, hc.2]; rfl)⟩
      · refine .inr ⟨b, o, arr, e, k1, k2, k3.1, by omega, ?_, fun k hs => ?_⟩
        · rw [hcs]; exact himp ver cs0 b o j sz fz hj hpl k5
        · have := k6 k hs.1; rw [hlen]; exact this
    by_cases hlti : i < hp.length
    · rcases hold i sz ver cs fz hlti hi with ⟨q1, fz0, q2, q3, q4⟩ | ⟨j, cs0, q1, q2, q3, q4, q5⟩
      · obtain ⟨hsz, hc⟩ := h.cells i sz ver cs fz0 q2
        refine ⟨hsz, ?_⟩
        rw [q4]
        rcases hc with hc | ⟨b, o, arr, e, k1, k2, k3, k4, k5, k6⟩
        · exact .inl hc
        · have hnw := hkeep i _ _ _ _ b o q1 q2 k1
          have hbl := hblk i _ _ _ _ b o q2 k1
          refine .inr ⟨b, o, arr, e, k1, (hg.evo.block b hbl hnw).trans k2, k3, k4, fun j c hc => ?_, fun k hs => ?_⟩
          · obtain ⟨u, m1, m2⟩ := k5 j c hc
            exact ⟨u, (cell_of_heap (hg.evo.block b hbl hnw) _).trans m1, RelC.step hext hevo c u m2⟩
          · have hsb : S b k ∨ (frz = true ∧ Lent β hp pick lend b k) := by
              rcases hg.only b k hs.1 with (hs1 | hs1) | hs1
              · exact .inl hs1
              · rcases hs.2 with hs2 | hs2 | hs2
                · exact .inr ⟨hs2, hs1⟩
                · exact .inl hs2
                · exact absurd hs2 hnw
              · exact absurd hs1 hnw
            rcases hsb with hsb | ⟨hfz, id2, sz2, ver2, cs2, fz2, o2, r1, r2, r3, r4, r5, r6, r7⟩
            · have := k6 k hsb
              rw [q3]
              cases fz0 <;> cases (frz && lend.contains i) <;> simp at this ⊢ <;> omega
            · have e2 := h.inj id2 i _ _ _ _ _ _ _ _ b o2 o r3 q2 r5 k1
              subst e2
              rw [q2] at r3
              simp only [Option.some.injEq, Ob.cells.injEq] at r3
              obtain ⟨rfl, rfl, rfl, rfl⟩ := r3
              rw [k1] at r5
              simp only [Option.some.injEq, Prod.mk.injEq, true_and] at r5
              subst r5
              rw [q3, hfz]
              have hcon : lend.contains id2 = true := by simpa using r2
              rw [hcon]
              simp
              exact r7
      · exact hcal j cs0 q3 q4 q5
    · obtain ⟨j, cs0, q1, q2, q3, q4⟩ := hnew i sz ver cs fz (by omega) hi
      exact hcal j cs0 q2 q3 q4
  · -- one a block
    have hsrc : ∀ i sz ver cs fz b o, (back pick lend frz hp H')[i]? = some (.cells sz ver cs fz) → β1 β β' pick hp.length i = some (b, o) →
        (idx pick i = none ∧ i < hp.length ∧ (∃ fz0, hp[i]? = some (.cells sz ver cs fz0)) ∧ β i = some (b, o)) ∨ (∃ j cs0, H'[j]? = some (.cells sz ver cs0 fz) ∧ β' j = some (b, o) ∧ i = pk pick hp.length j) := by
      intro i sz ver cs fz b o hi hβ
      by_cases hlti : i < hp.length
      · rcases hold i sz ver cs fz hlti hi with ⟨q1, fz0, q2, q3, q4⟩ | ⟨j, cs0, q1, q2, q3, q4, q5⟩
        · exact .inl ⟨q1, hlti, ⟨fz0, q2⟩, by rw [← q4]; exact hβ⟩
        · refine .inr ⟨j, cs0, q3, by rw [← q5]; exact hβ, ?_⟩
          have hp2 := idx_some q1
          have hjl := (List.getElem?_eq_some_iff.1 hp2).1
          unfold pk
          rw [if_pos hjl]
          simp [List.getD, hp2]
      · obtain ⟨j, cs0, q1, q2, q3, q4⟩ := hnew i sz ver cs fz (by omega) hi
        refine .inr ⟨j, cs0, q2, by rw [← q4]; exact hβ, ?_⟩
        unfold pk
        rw [if_neg (by omega)]; omega
    have hW : ∀ j sz ver cs0 fz b o, H'[j]? = some (.cells sz ver cs0 fz) → β' j = some (b, o) → WC Wr β hp w pick b := by
      intro j sz ver cs0 fz b o hj hβ
      obtain ⟨_, hc⟩ := h'.cells j sz ver cs0 fz hj
      rcases hc with hc | ⟨b2, o2, arr, e, k1, k2, k3, _⟩
      · rw [hc.1] at hβ; cases hβ
      · rw [k1] at hβ; injection hβ with hβ; injection hβ with hβ _; rw [← hβ]; exact k3
    rcases hsrc i _ _ _ _ b o g1 g3 with ⟨a1, a2, ⟨f0, a3⟩, a4⟩ | ⟨j, c0, a1, a2, a3⟩
    · rcases hsrc i' _ _ _ _ b o' g2 g4 with ⟨b1, b2, ⟨f1, b3⟩, b4⟩ | ⟨j', c1, b1, b2, b3⟩
      · exact h.inj i i' _ _ _ _ _ _ _ _ b o o' a3 b3 a4 b4
      · exact absurd (hW j' _ _ _ _ b o' b1 b2) (hkeep i _ _ _ _ b o a1 a3 a4)
    · rcases hsrc i' _ _ _ _ b o' g2 g4 with ⟨b1, b2, ⟨f1, b3⟩, b4⟩ | ⟨j', c1, b1, b2, b3⟩
      · exact absurd (hW j _ _ _ _ b o a1 a2) (hkeep i' _ _ _ _ b o' b1 b3 b4)
      · rw [a3, b3, h'.inj j j' _ _ _ _ _ _ _ _ b o o' a1 b1 a2 b2]
  · rcases hg.only b k hs.1 with (hs1 | hs1) | hs1
    · exact .inl hs1
    · exact .inr (hlent b k hs1)
    · exact .inr hs1.1

end
end Go.Vm
