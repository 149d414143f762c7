/- The small machine and regions that draw their order: each order comes to the same. It states nothing of any program. -/
import Derived.Test.YtjeeofakogoboaaVmT
namespace Go.Vm
set_option linter.unusedVariables false
set_option linter.unusedSimpArgs false

/-- What an operation may write, of what is kept. -/
def writesOf (o : Oper) (ρ : Operand → D) (ts : List Tell) : List Nat :=
  match o.op with
  | .store _ a _ => match ρ a with | .v (.one (.ptr id _ _)) => [id] | _ => []
  | .call c => match c.callee with
    | .builtin .append => match c.args.toList.map ρ with | .v (.one (.ar id _ _ _)) :: _ => [id] | _ => []
    | .value _ => match ts with | .call pick lend frz _ _ _ :: _ => pick ++ (match frz with | true => lend | false => []) | _ => []
    | _ => []
  | _ => []

theorem set_get_ne {hp : List Ob} {id j : Nat} {x : Ob} (h : j ≠ id) : (hp.set id x)[j]? = hp[j]? := by rw [List.getElem?_set, if_neg (by omega)]
theorem app_get {hp l : List Ob} {j : Nat} (h : j < hp.length) : (hp ++ l)[j]? = hp[j]? := List.getElem?_append_left h

theorem opx_keeps {P : Program} {o : Oper} {ρ : Operand → D} {hp hp' : List Ob} {os os' : List Or} {ts : List Tell} {d : D} {ps : List Prop} (h : opx P o ρ hp os = some (d, hp', os', ps)) (id : Nat) (hid : id < hp.length) (hw : id ∉ writesOf o ρ ts) : hp'[id]? = hp[id]? := by
  unfold opx at h
  unfold writesOf at hw
  cases ho : o.op <;> simp only [ho] at h hw <;> (try (cases h; done))
  all_goals (try (simp only [Option.some.injEq, Prod.mk.injEq] at h; obtain ⟨_, rfl, _⟩ := h; rfl))
  case call c =>
    split at h <;> try (cases h; done)
    · rename_i hc
      simp only [hc] at hw
      repeat' split at h
      all_goals (try (cases h; done))
      all_goals (simp only [Option.some.injEq, Prod.mk.injEq] at h; obtain ⟨_, rfl, _⟩ := h)
      all_goals (first | exact app_get hid | (refine set_get_ne (fun he => hw ?_); simp_all))
    all_goals
      repeat' split at h
      all_goals (try (cases h; done))
      all_goals (simp only [Option.some.injEq, Prod.mk.injEq] at h; obtain ⟨_, rfl, _⟩ := h; rfl)
  all_goals
    repeat' split at h
    all_goals (try (cases h; done))
    all_goals (try (simp only [Option.map_eq_some_iff, Prod.exists] at h))
    all_goals (try (obtain ⟨_, _, h⟩ := h))
    all_goals (try (obtain ⟨_, h⟩ := h))
    all_goals (try (simp only [Option.some.injEq, Prod.mk.injEq] at h; obtain ⟨_, rfl, _⟩ := h))
    all_goals (first | rfl | exact app_get hid | (refine set_get_ne (fun he => hw ?_); simp_all))

theorem stepx_keeps {P : Program} {o : Oper} {ρ : Operand → D} {hp hp' : List Ob} {ts ts' : List Tell} {d : D} {ps : List Prop} (h : stepx P o ρ hp ts = some (d, hp', ts', ps)) (id : Nat) (hid : id < hp.length) (hw : id ∉ writesOf o ρ ts) : hp'[id]? = hp[id]? := by
  unfold stepx at h
  split at h
  · rename_i c hoc
    split at h
    · rename_i fop hcal
      split at h
      · rename_i f caps pick lend frz eq res hp1 ts1 hfop
        split at h
        · split at h
          · simp only [Option.some.injEq, Prod.mk.injEq] at h
            obtain ⟨_, rfl, _, _⟩ := h
            simp only [writesOf, hoc, hcal, List.mem_append, not_or] at hw
            rw [back_old hid]
            cases hh : hp[id]? with
            | none => rfl
            | some ob =>
              simp only [Option.map_some]
              have hx : idx pick id = none := by
                cases hq : idx pick id with
                | none => rfl
                | some j => exact absurd (List.mem_of_getElem? (idx_some hq)) hw.1
              rw [hx]
              cases ob with
              | gone => rfl
              | cells sz ver cs fz =>
                simp only [frzOb]
                cases frz with
                | false => simp
                | true =>
                  have h2 : id ∉ lend := hw.2
                  have h3 : lend.contains id = false := by simpa using h2
                  rw [h3]; simp
          · cases h
        · cases h
      · cases h
    · split at h
      · rename_i d1 hp1 os1 ps1 hopx
        simp only [Option.some.injEq, Prod.mk.injEq] at h
        obtain ⟨rfl, rfl, rfl, rfl⟩ := h
        exact opx_keeps hopx id hid hw
      · cases h
  · split at h
    · rename_i d1 hp1 os1 ps1 hopx
      simp only [Option.some.injEq, Prod.mk.injEq] at h
      obtain ⟨rfl, rfl, rfl, rfl⟩ := h
      exact opx_keeps hopx id hid hw
    · cases h

/-- What is said of an operation of a region that draws: what it doesn't see; what it may write; how much was kept; how much is new. -/
structure Pl where
  hide : List Nat
  wr : List Nat
  base : Nat
  grow : Nat
  full : Bool

abbrev Out5 := Option (D × List Ob × List Tell × List Prop × List Nat)

/-- An operation, by what it sees; its guard too. -/
def stepV (P : Program) (ops : Array Oper) (o : Oper) (sl : List D) (hp : List Ob) (ts : List Tell) : Out5 :=
  match o.guard with
  | none => match stepx P o (evl sl) hp ts with
    | some (d, hp2, ts', ps) => some (d, hp2, ts', ps, writesOf o (evl sl) ts)
    | none => none
  | some (j, want) => match (ops[j]?).bind (·.dst) with
    | some g => match sl[g]?, ts with
      | some (.v (.one (.sc (.bool v)))), .br t :: ts => match t == want with
        | true => match stepx P o (evl sl) hp ts with
          | some (d, hp2, ts', ps) => some (d, hp2, ts', (v = t) :: ps, writesOf o (evl sl) ts)
          | none => none
        | false => some (.dead, hp, ts, [v = t], [])
      | _, _ => none
    | none => none

def viewS (ops : Array Oper) (o : Oper) (sl : List D) : List D := maskS (o.looksAt ops) 0 sl
def viewH (pl : Pl) (hp : List Ob) : List Ob := (maskH pl.hide 0 hp).take pl.base

/-- One of the operations: what it is, what is said of it, what it was told, what was owed. -/
structure Ent where
  o : Oper
  pl : Pl
  ts : List Tell
  ts' : List Tell
  ps : List Prop

def StepOK (P : Program) (ops : Array Oper) (x : Ent) (sl : List D) (hp : List Ob) (sl' : List D) (hp' : List Ob) : Prop :=
  ∃ d hp2 wrs, stepV P ops x.o (viewS ops x.o sl) (viewH x.pl hp) x.ts = some (d, hp2, x.ts', x.ps, wrs) ∧ (∀ id ∈ wrs, x.pl.wr.contains id = true) ∧
    x.pl.base ≤ hp.length ∧ hp2.length = x.pl.base + x.pl.grow ∧ (x.pl.grow = 0 ∨ x.pl.base = hp.length) ∧
    ((x.pl.full = true ∧ x.pl.base = hp.length) ∨ (allDs (fun i => decide (i < x.pl.base)) (viewS ops x.o sl) = true ∧ allObs (fun i => decide (i < x.pl.base)) (viewH x.pl hp) = true)) ∧
    (x.pl.hide = [] ∨ (allD (fun i => !x.pl.hide.contains i) d = true ∧ allObs (fun i => !x.pl.hide.contains i) hp2 = true)) ∧
    sl' = putD sl x.o.dst d ∧ hp' = over x.pl.wr 0 hp2 hp

/-- What stands of itself. -/
def plOk (m : Nat) (pl : Pl) : Bool := decide (m ≤ pl.base) && pl.hide.all fun id => !pl.wr.contains id && decide (id < pl.base)

theorem stepOK_sound {P : Program} {Wr : Nat → Prop} {m : Nat} {ops : Array Oper} {i : Nat} {x : Ent} {sl sl' : List D} {hp hp' : List Ob} {β : Nat → Option (Nat × Nat)} {S : Nat → Nat → Prop} {a : Act} {w : World} {Q : Exit → Act → World → Prop} {K : Act → World → Prop}
    (hs : SR Wr m sl hp β S a w) (hi : ops[i]? = some x.o) (hpl : plOk m x.pl = true) (h : StepOK P ops x sl hp sl' hp') (hps : ∀ p ∈ x.ps, p)
    (hK : ∀ β' S' a' w', SR Wr m sl' hp' β' S' a' w' → Gone Wr m hp β S w hp' β' S' w' → K a' w') : wpOp P ops Q i K a w := by
  obtain ⟨d, hp2, wrs, h1, h2, h3, h4, h5, h6, h7, rfl, rfl⟩ := h
  simp only [plOk, Bool.and_eq_true, decide_eq_true_eq, List.all_eq_true, Bool.not_eq_true'] at hpl
  have hdo : ∀ ts ts' d hp2 ps, stepx P x.o (evl (viewS ops x.o sl)) (viewH x.pl hp) ts = some (d, hp2, ts', ps) → (∀ p ∈ ps, p) → (∀ id ∈ writesOf x.o (evl (viewS ops x.o sl)) ts, x.pl.wr.contains id = true) →
      hp2.length = x.pl.base + x.pl.grow → (x.pl.hide = [] ∨ (allD (fun i => !x.pl.hide.contains i) d = true ∧ allObs (fun i => !x.pl.hide.contains i) hp2 = true)) →
      (∀ β' S' a' w', SR Wr m (putD sl x.o.dst d) (over x.pl.wr 0 hp2 hp) β' S' a' w' → Gone Wr m hp β S w (over x.pl.wr 0 hp2 hp) β' S' w' → K a' w') → x.o.wp P a w K Q := by
    intro ts ts' d hp2 ps k1 k2 k3 k4 k5 k6
    have hvl : (viewH x.pl hp).length = x.pl.base := by unfold viewH; rw [List.length_take, maskH_length]; omega
    refine frame hs hpl.1 h3 ?_ k1 k2 ?_ (fun id hw hid => stepx_keeps k1 id (by rw [hvl]; exact hid) fun hm => by rw [k3 id hm] at hw; cases hw) (fun id hid => hpl.2 id (by simpa using hid)) k5 k6
    · rcases h6 with h6 | h6
      · exact .inl h6.2
      · exact .inr h6
    · rcases h5 with h5 | h5
      · exact .inl (by omega)
      · exact .inr h5
  unfold wpOp
  rw [hi]
  simp only
  unfold stepV at h1
  split at h1
  · rename_i hgd
    rw [if_pos (by simp [Region.wanted, hgd])]
    split at h1
    · rename_i d1 hp3 ts1 ps1 hst
      simp only [Option.some.injEq, Prod.mk.injEq] at h1
      obtain ⟨rfl, rfl, rfl, e4, rfl⟩ := h1
      exact .inl (hdo _ _ _ _ _ hst (e4 ▸ hps) h2 h4 h7 hK)
    · cases h1
  · rename_i j want hgd
    split at h1
    · rename_i g hg
      split at h1
      · rename_i v t ts1 hslg hts
        have hslg' : sl[g]? = some (.v (.one (.sc (.bool v)))) := by
          unfold viewS at hslg
          rw [maskS_get] at hslg
          cases hq : sl[g]? with
          | none => rw [hq] at hslg; cases hslg
          | some d0 =>
            rw [hq] at hslg
            simp only [Option.map_some, Option.some.injEq] at hslg
            split at hslg
            · rw [hslg]
            · cases hslg
        have hy : yielded ops a.tmps j = some v := by
          have hr := hs.slots.get g
          rw [hslg'] at hr
          simp only [Option.getD_some] at hr
          have hb := rel_bool hr
          have hlen : a.tmps.toList.length = sl.length := RelDs.length hs.slots
          have hgl : g < a.tmps.size := by
            have := (List.getElem?_eq_some_iff.1 hslg').1
            have hl2 : a.tmps.size = sl.length := by rw [← Array.length_toList]; exact hlen
            rw [hl2]; exact this
          unfold yielded
          rw [hg]
          simp only [Option.bind_some]
          rw [Array.getElem?_eq_getElem hgl]
          simp only [Array.getElem?_toList, Array.getElem?_eq_getElem hgl, Option.getD_some] at hb
          rw [hb]
        have hwant : Region.wanted x.o (yielded ops a.tmps) = (v == want) := by simp [Region.wanted, hgd, hy]
        rw [hwant]
        split at h1
        · rename_i htw
          split at h1
          · rename_i d1 hp3 ts2 ps1 hst
            simp only [Option.some.injEq, Prod.mk.injEq] at h1
            obtain ⟨rfl, rfl, rfl, e4, rfl⟩ := h1
            have hvt : v = t := hps _ (by rw [← e4]; exact .head _)
            subst hvt
            rw [if_pos htw]
            exact .inl (hdo _ _ _ _ _ hst (fun p hp => hps p (by rw [← e4]; exact .tail _ hp)) h2 h4 h7 hK)
          · cases h1
        · rename_i htw
          simp only [Option.some.injEq, Prod.mk.injEq] at h1
          obtain ⟨rfl, rfl, _, e4, rfl⟩ := h1
          have hvt : v = t := hps _ (by rw [← e4]; exact .head _)
          subst hvt
          rw [if_neg (by simp [htw])]
          have hvl : (viewH x.pl hp).length = x.pl.base := by unfold viewH; rw [List.length_take, maskH_length]; omega
          have hsame : over x.pl.wr 0 (viewH x.pl hp) hp = hp := by
            apply List.ext_getElem?
            intro id
            rw [over_get]
            simp only [Nat.zero_add]
            by_cases hlt : id < hp.length
            · rw [if_pos hlt]
              split
              · rename_i hc
                unfold viewH
                rw [List.getElem?_take, if_pos (by omega), maskH_get]
                have hnh : ¬ x.pl.hide.contains id = true := fun hh => by
                  have := (hpl.2 id (by simpa using hh)).1
                  rw [this] at hc; cases hc.2
                simp only [Nat.zero_add]
                cases hp[id]? with
                | none => rfl
                | some ob => simp only [Option.map_some, if_neg hnh]
              · rfl
            · rw [if_neg hlt, List.getElem?_eq_none (by omega), List.getElem?_eq_none (by omega)]
          refine hK β S (a.put x.o.dst undef) w ?_ ?_
          · rw [hsame]
            exact ⟨put_rel hs.slots (show RelD β hp S w .dead undef from trivial) x.o.dst, hs.heap, hs.fresh, hs.base, by rw [put_defers]; exact hs.defers⟩
          · rw [hsame]
            exact Gone.refl hs.base
      · cases h1
    · cases h1

/-- Two operations that don't touch each other. -/
def indep (ops : Array Oper) (x y : Ent) : Bool :=
  x.o.apart ops y.o && (x.pl.grow == 0 || y.pl.grow == 0) &&
  (x.pl.grow == 0 || (decide (y.pl.base ≤ x.pl.base) && !y.pl.full)) && (y.pl.grow == 0 || (decide (x.pl.base ≤ y.pl.base) && !x.pl.full)) &&
  (x.pl.wr.all fun id => !y.pl.wr.contains id && (y.pl.hide.contains id || decide (y.pl.base ≤ id))) &&
  (y.pl.wr.all fun id => !x.pl.wr.contains id && (x.pl.hide.contains id || decide (x.pl.base ≤ id)))

theorem maskS_put {keep : List Nat} {dst : Option Tmp} {d : D} {sl : List D} (h : ∀ t, dst = some t → t ∉ keep) : maskS keep 0 (putD sl dst d) = maskS keep 0 sl := by
  cases dst with
  | none => rfl
  | some t =>
    have ht := h t rfl
    simp only [putD]
    apply List.ext_getElem?
    intro j
    rw [maskS_get, maskS_get, List.getElem?_set]
    by_cases hj : t = j
    · subst hj
      rw [if_pos rfl]
      have hc : ¬ keep.contains (0 + t) = true := by simpa using ht
      by_cases hl : t < sl.length
      · rw [if_pos hl, List.getElem?_eq_getElem hl]
        simp only [Option.map_some, if_neg hc]
      · have hl' : sl.length ≤ t := Nat.le_of_not_lt hl
        rw [if_neg hl, List.getElem?_eq_none hl']
    · rw [if_neg hj]

theorem putD_comm {sl : List D} {x y : Option Tmp} {d e : D} (h : ∀ t, x = some t → y ≠ some t) : putD (putD sl x d) y e = putD (putD sl y e) x d := by
  cases x with
  | none => rfl
  | some t => cases y with
    | none => rfl
    | some u =>
      have hn : t ≠ u := fun he => h t rfl (by rw [he])
      simp only [putD]
      exact List.set_comm _ _ hn

theorem viewH_over {x y : Pl} {hp hp2 : List Ob} (hb : y.base ≤ hp.length) (h : ∀ id, x.wr.contains id = true → y.hide.contains id = true ∨ y.base ≤ id) : viewH y (over x.wr 0 hp2 hp) = viewH y hp := by
  unfold viewH
  apply List.ext_getElem?
  intro id
  rw [List.getElem?_take, List.getElem?_take]
  split
  · rename_i hid
    rw [maskH_get, maskH_get, over_get]
    simp only [Nat.zero_add]
    rw [if_pos (by omega)]
    by_cases hw : id < hp2.length ∧ x.wr.contains id = true
    · rw [if_pos hw]
      rcases h id hw.2 with h1 | h1
      · rw [List.getElem?_eq_getElem hw.1, List.getElem?_eq_getElem (show id < hp.length by omega)]
        simp only [Option.map_some, if_pos h1]
      · omega
    · rw [if_neg hw]
  · rfl

theorem swap {P : Program} {ops : Array Oper} {x y : Ent} {sl sl1 sl2 : List D} {hp hp1 hp2 : List Ob} (hi : indep ops x y = true) (h1 : StepOK P ops x sl hp sl1 hp1) (h2 : StepOK P ops y sl1 hp1 sl2 hp2) :
    ∃ sl3 hp3, StepOK P ops y sl hp sl3 hp3 ∧ StepOK P ops x sl3 hp3 sl2 hp2 := by
  obtain ⟨d, q, wrs, a1, a2, a3, a4, a5, a6, a7, rfl, rfl⟩ := h1
  obtain ⟨e, r, vrs, b1, b2, b3, b4, b5, b6, b7, rfl, rfl⟩ := h2
  simp only [indep, Bool.and_eq_true, Bool.or_eq_true, beq_iff_eq, decide_eq_true_eq, Bool.not_eq_true', List.all_eq_true] at hi
  obtain ⟨⟨⟨⟨⟨i1, i2⟩, i3⟩, i4⟩, i5⟩, i6⟩ := hi
  obtain ⟨j1, j2, j3⟩ := Oper.apart_spec i1
  have hlx : (over x.pl.wr 0 q hp).length = max q.length hp.length := over_length _ _ _ _
  have hyb : y.pl.base ≤ hp.length := by rcases i3 with i3 | i3 <;> omega
  have hly : (over y.pl.wr 0 r hp).length = max r.length hp.length := over_length _ _ _ _
  have hvs : viewS ops y.o (putD sl x.o.dst d) = viewS ops y.o sl := maskS_put j1
  have hvs' : viewS ops x.o (putD sl y.o.dst e) = viewS ops x.o sl := maskS_put j3
  have hvh : viewH y.pl (over x.pl.wr 0 q hp) = viewH y.pl hp := viewH_over hyb fun id hid => (i5 id (by simpa using hid)).2
  have hvh' : viewH x.pl (over y.pl.wr 0 r hp) = viewH x.pl hp := viewH_over a3 fun id hid => (i6 id (by simpa using hid)).2
  rw [hvs, hvh] at b1 b6
  refine ⟨_, _, ⟨e, r, vrs, b1, b2, hyb, b4, ?_, ?_, b7, rfl, rfl⟩, ⟨d, q, wrs, by rw [hvs', hvh']; exact a1, a2, by rw [hly]; omega, a4, ?_, ?_, a7, putD_comm (fun t ht hh => j2 t ht hh), ?_⟩⟩
  · rcases b5 with b5 | b5
    · exact .inl b5
    · rcases i2 with i2 | i2
      · exact .inr (by omega)
      · exact .inl i2
  · rcases b6 with b6 | b6
    · refine .inl ⟨b6.1, ?_⟩
      rcases i3 with i3 | i3
      · omega
      · rw [i3.2] at b6; cases b6.1
    · exact .inr b6
  · rcases a5 with a5 | a5
    · exact .inl a5
    · rcases i2 with i2 | i2
      · exact .inl i2
      · exact .inr (by omega)
  · rw [hvs', hvh']
    rcases a6 with a6 | a6
    · refine .inl ⟨a6.1, ?_⟩
      rcases i4 with i4 | i4
      · omega
      · rw [i4.2] at a6; cases a6.1
    · exact .inr a6
  · apply List.ext_getElem?
    intro id
    rw [over_get, over_get, over_get, over_get, hlx, hly]
    simp only [Nat.zero_add]
    have hdis : x.pl.wr.contains id = true → y.pl.wr.contains id = true → False := fun p1 p2 => by
      have := (i5 id (by simpa using p1)).1
      rw [this] at p2; cases p2
    have hgx : x.pl.grow = 0 → q.length ≤ hp.length := fun hz => by omega
    have hgy : y.pl.grow = 0 → r.length ≤ hp.length := fun hz => by omega
    by_cases k1 : id < hp.length
    · have k2 : id < max q.length hp.length := by omega
      have k3 : id < max r.length hp.length := by omega
      simp only [if_pos k1, if_pos k2, if_pos k3]
      by_cases p1 : id < q.length ∧ x.pl.wr.contains id = true
      · by_cases p2 : id < r.length ∧ y.pl.wr.contains id = true
        · exact absurd (hdis p1.2 p2.2) (fun h => h)
        · simp only [if_neg p2, if_pos p1]
      · by_cases p2 : id < r.length ∧ y.pl.wr.contains id = true
        · simp only [if_pos p2, if_neg p1]
        · simp only [if_neg p2, if_neg p1]
    · simp only [if_neg k1]
      rcases i2 with i2 | i2
      · have := hgx i2
        have k2 : ¬ id < max q.length hp.length := by omega
        rw [if_neg k2]
        by_cases k3 : id < max r.length hp.length
        · rw [if_pos k3, if_neg (fun hh => by omega)]
        · rw [if_neg k3, List.getElem?_eq_none (by omega), List.getElem?_eq_none (by omega)]
      · have := hgy i2
        have k3 : ¬ id < max r.length hp.length := by omega
        rw [if_neg k3]
        by_cases k2 : id < max q.length hp.length
        · rw [if_pos k2, if_neg (fun hh => by omega)]
        · rw [if_neg k2, List.getElem?_eq_none (by omega), List.getElem?_eq_none (by omega)]

/-- What an operation comes after. -/
def bound (o : Oper) : List Nat := (o.after.toList.filter (Region.binds .any)).map (·.on)

inductive Reach (ops : Array Oper) : Nat → Nat → Prop
  | one {i j o} : ops[j]? = some o → i ∈ bound o → Reach ops i j
  | more {i k j o} : ops[j]? = some o → k ∈ bound o → Reach ops i k → Reach ops i j

def orAll (acc : List Nat) : List Nat → Nat
  | [] => 0
  | k :: ks => 2 ^ k ||| (acc[k]?).getD 0 ||| orAll acc ks

def closeB : List Oper → List Nat → List Nat
  | [], acc => acc
  | o :: rest, acc => closeB rest (acc ++ [orAll acc (bound o)])

theorem orAll_bit {acc : List Nat} {i : Nat} : ∀ {ks : List Nat}, (orAll acc ks).testBit i = true → ∃ k ∈ ks, i = k ∨ ((acc[k]?).getD 0).testBit i = true
  | [], h => by simp [orAll] at h
  | k :: ks, h => by
    simp only [orAll, Nat.testBit_or, Bool.or_eq_true] at h
    rcases h with (h | h) | h
    · rw [Nat.testBit_two_pow] at h
      exact ⟨k, .head _, .inl (by simpa using (of_decide_eq_true h).symm)⟩
    · exact ⟨k, .head _, .inr h⟩
    · obtain ⟨k', hk, hh⟩ := orAll_bit h
      exact ⟨k', .tail _ hk, hh⟩

theorem closeB_reach {ops : Array Oper} : ∀ (l : List Oper) (acc : List Nat), (∀ j, l[j]? = ops[acc.length + j]?) → (∀ (j b : Nat), acc[j]? = some b → ∀ i, b.testBit i = true → Reach ops i j) →
    ∀ (j b : Nat), (closeB l acc)[j]? = some b → ∀ i, b.testBit i = true → Reach ops i j
  | [], acc, hl, h, j, b, hj, i, hi => h j b hj i hi
  | o :: l, acc, hl, h, j, b, hj, i, hi => by
    refine closeB_reach l (acc ++ [orAll acc (bound o)]) (fun j => ?_) (fun j b hj i hi => ?_) j b hj i hi
    · have := hl (j + 1)
      simp only [List.getElem?_cons_succ] at this
      rw [this, List.length_append, List.length_singleton]
      congr 1
      omega
    · rw [List.getElem?_append] at hj
      split at hj
      · exact h j b hj i hi
      · rename_i hlt
        have hj0 : j = acc.length := by
          have := (List.getElem?_eq_some_iff.1 hj).1
          simp at this
          omega
        subst hj0
        simp only [Nat.sub_self, List.getElem?_cons_zero, Option.some.injEq] at hj
        subst hj
        have ho : ops[acc.length]? = some o := by simpa using (hl 0).symm
        obtain ⟨k, hk, hk2⟩ := orAll_bit hi
        rcases hk2 with rfl | hk2
        · exact .one ho hk
        · cases hq : acc[k]? with
          | none => rw [hq] at hk2; simp at hk2
          | some b0 =>
            rw [hq] at hk2
            exact .more ho hk (h k b0 hq i hk2)
end Go.Vm
