/- Vows: two ends in any weather. -/
import Derived.Test.YtjeeofakogoboaaTVowPB
namespace Go.Proofs.Ytjeeofakogoboaa.T
open Go.Vm Go.Tm
set_option linter.unusedVariables false
set_option linter.unusedSimpArgs false

/-- Two ends, and the words that each sent. -/
abbrev W := Vow × Vow × List Int × List Int

def step1 (a b : Vow) (p q : List Int) (k : Int) : W :=
  if k = 8 then ((grant a).1, b, p ++ (grant a).2.2, q)
  else if k = 5 then ((recant a).1, b, p ++ (recant a).2.2, q)
  else if k = 9 then ((part a).1, b, p ++ (part a).2.2, q)
  else if k = 2 then match p with
    | [] => (a, b, [], q)
    | x :: p' => (a, (hear b x).1, p', q ++ (hear b x).2.2)
  else (a, b, p, q)
def flip (w : W) : W := (w.2.1, w.1, w.2.2.2, w.2.2.1)
def step (w : W) (o : Act) : W := if o.2.1 = 1 then step1 w.1 w.2.1 w.2.2.1 w.2.2.2 o.1 else if o.2.1 = 2 then flip (step1 w.2.1 w.1 w.2.2.2 w.2.2.1 o.1) else w
def w0 : W := (zeroV, zeroV, [], [])
def run (l : List Act) : W := l.foldl step w0

theorem run_snoc (l : List Act) (o : Act) : run (l ++ [o]) = step (run l) o := by simp [run]
theorem run_take {l : List Act} {i : Nat} (h : i < l.length) : run (l.take (i + 1)) = step (run (l.take i)) l[i] := by
  rw [← run_snoc, List.take_append_getElem h]

theorem grant_len (v : Vow) : (grant v).2.2.length ≤ 1 := by unfold grant; split; split <;> simp; simp
theorem recant_len (v : Vow) : (recant v).2.2.length ≤ 1 := by unfold recant; split <;> simp
theorem part_len (v : Vow) : (part v).2.2.length ≤ 1 := by unfold part; split <;> simp
theorem hear_len (v : Vow) (k : Int) : (hear v k).2.2.length ≤ 1 := by unfold hear; split; (repeat' split) <;> simp; split; simp; split; (repeat' split) <;> simp; split; (repeat' split) <;> simp; simp

def good (w : W) (n : Nat) : Prop := may w.1 ∧ may w.2.1 ∧ w.2.2.1.length + w.2.2.2.length ≤ n

theorem step1_good {a b : Vow} {p q : List Int} {n : Nat} (ha : may a) (hb : may b) (hn : p.length + q.length ≤ n) (k : Int) : good (step1 a b p q k) (n + 1) := by
  have g1 := grant_len a
  have g2 := recant_len a
  have g3 := part_len a
  unfold step1
  split
  · exact ⟨may_grant ha, hb, by simp only [List.length_append]; omega⟩
  split
  · exact ⟨may_recant ha, hb, by simp only [List.length_append]; omega⟩
  split
  · exact ⟨may_part ha, hb, by simp only [List.length_append]; omega⟩
  split
  · split
    · exact ⟨ha, hb, by simp only [List.length_nil] at *; omega⟩
    · rename_i x p'
      have g4 := hear_len b x
      exact ⟨ha, may_hear hb x, by simp only [List.length_append, List.length_cons] at *; omega⟩
  · exact ⟨ha, hb, by simp only; omega⟩

theorem step_good {w : W} {n : Nat} (h : good w n) (o : Act) : good (step w o) (n + 1) := by
  obtain ⟨h1, h2, h3⟩ := h
  unfold step
  split
  · exact step1_good h1 h2 h3 o.1
  split
  · obtain ⟨k1, k2, k3⟩ := step1_good h2 h1 (by omega : w.2.2.2.length + w.2.2.1.length ≤ n) o.1
    exact ⟨k2, k1, by unfold flip; simp only; omega⟩
  · exact ⟨h1, h2, by omega⟩

theorem zero_may : may zeroV := by decide

theorem fold_good : ∀ (l : List Act) (w : W) (n : Nat), good w n → good (l.foldl step w) (n + l.length)
  | [], w, n, h => h
  | o :: l, w, n, h => by
    have := fold_good l (step w o) (n + 1) (step_good h o)
    rw [List.length_cons, show n + (l.length + 1) = n + 1 + l.length by omega]
    exact this

theorem run_good (l : List Act) : good (run l) l.length := by
  have := fold_good l w0 0 ⟨zero_may, zero_may, by simp [w0]⟩
  rwa [Nat.zero_add] at this

abbrev DS := HL [.int .i64, (.arr 2 (.row (.prod (.int .i64) (.prod .bool (.prod .bool (.int .i64)))))), .nat, .nat, .nat, .nat, .unit, (.fl (.int .i64)), (.fl (.int .i64))]

/-- A state of the dance, as two ends and their ways. -/
def DN (s : DS) (i : Nat) (w : W) : Prop := s.1 = (i : Int) ∧ s.2.1 0 = w.1 ∧ s.2.1 1 = w.2.1 ∧
  s.2.2.2.2.2.2.2.1.drop s.2.2.1 = w.2.2.1 ∧ s.2.2.2.1 + s.2.2.1 = s.2.2.2.2.2.2.2.1.length ∧
  s.2.2.2.2.2.2.2.2.1.drop s.2.2.2.2.1 = w.2.2.2 ∧ s.2.2.2.2.2.1 + s.2.2.2.2.1 = s.2.2.2.2.2.2.2.2.1.length

theorem cap {n m : Nat} (h : n ≤ 1000) (h1 : m ≤ 1) : (n + m) * 8 ≤ 140737488355328 := by omega

theorem lit_i64 {z : Int} (h : (Lit.int .i64 z).wf = true) : -9223372036854775808 ≤ z ∧ z ≤ 9223372036854775807 := by
  simp [Lit.wf, IntKind.wrap, IntKind.bits, IntKind.signed, IntKind.min, IntKind.max] at h
  omega

def inI (l : List Act) : Prop := ∀ o ∈ l, -9223372036854775808 ≤ o.2.1 ∧ o.2.1 ≤ 9223372036854775807

theorem drop_cons {L : List Int} {n : Nat} {x : Int} {p : List Int} (h : L.drop n = x :: p) : L[n]? = some x ∧ L.drop (n + 1) = p ∧ n < L.length := by
  have hlt : n < L.length := by
    rcases Nat.lt_or_ge n L.length with h1 | h1
    · exact h1
    · rw [List.drop_eq_nil_of_le h1] at h; cases h
  rw [List.drop_eq_getElem_cons hlt] at h
  injection h with h1 h2
  exact ⟨by rw [List.getElem?_eq_getElem hlt, h1], h2, hlt⟩

theorem wr0 : IntKind.i64.wrap 0 = 0 := by decide
theorem len_of {n l : Nat} {L p : List Int} (h : L.drop l = p) (h2 : n + l = L.length) : n = p.length := by rw [← h, List.length_drop]; omega
theorem nb10 : Nat.beq 1 0 = false := rfl
theorem nb01 : Nat.beq 0 1 = false := rfl
theorem wr1 : IntKind.i64.wrap 1 = 1 := by decide

set_option maxHeartbeats 4000000 in
theorem round1 {l : List Act} {i : Nat} {V : Nat → Vow} {l0 n0 l1 n1 : Nat} {L0 L1 : List Int} {a b : Vow} {p q : List Int} {k : Int} {r : Int × Int × Int} (hi : i < l.length) (hl : l.length ≤ 1000) (ho : l[i] = (k, 1, r)) (hV0 : V 0 = a) (hV1 : V 1 = b) (hp : L0.drop l0 = p) (hn0 : n0 + l0 = L0.length) (hq : L1.drop l1 = q) (hn1 : n1 + l1 = L1.length)
    (ha : may a) (hb : may b) (hpq : p.length + q.length ≤ i) : (vow_Dance_l0 l ((i : Int), V, l0, n0, l1, n1, (), L0, L1, ())).1 = true ∧ (vow_Dance_l0 l ((i : Int), V, l0, n0, l1, n1, (), L0, L1, ())).2.1 = true ∧ DN (vow_Dance_l0 l ((i : Int), V, l0, n0, l1, n1, (), L0, L1, ())).2.2.1 (i + 1) (step1 a b p q k) := by
  have hpl : n0 = p.length := by rw [← hp, List.length_drop]; omega
  have hql : n1 = q.length := by rw [← hq, List.length_drop]; omega
  have hwi : IntKind.i64.wrap ((i : Int) + 1) = (i : Int) + 1 := wrap_i64 (by omega) (by omega)
  have c0 : ∀ m : Nat, m ≤ 1 → (n0 + m) * 8 ≤ 140737488355328 := fun m hm => cap (by omega) hm
  have c1 : ∀ m : Nat, m ≤ 1 → (n1 + m) * 8 ≤ 140737488355328 := fun m hm => cap (by omega) hm
  have z0 := c0 0 (by omega)
  have z1 := c1 0 (by omega)
  rw [Nat.add_zero] at z0 z1
  have g1 := c0 _ (grant_len a)
  have g2 := c0 _ (recant_len a)
  have g3 := c0 _ (part_len a)
  by_cases k8 : k = 8
  · subst k8
    simp [vow_Dance_l0, hi, ho, wr0, wr1, nb10, nb01, hV0, hV1, grant_r, ha, hwi, DN, step1, hn0, hn1, hp, hq, g1]
  by_cases k5 : k = 5
  · subst k5
    simp [vow_Dance_l0, hi, ho, wr0, wr1, nb10, nb01, hV0, hV1, recant_r, ha, hwi, DN, step1, hn0, hn1, hp, hq, g2]
  by_cases k9 : k = 9
  · subst k9
    simp [vow_Dance_l0, hi, ho, wr0, wr1, nb10, nb01, hV0, hV1, part_r, ha, hwi, DN, step1, hn0, hn1, hp, hq, g3]
  by_cases k2 : k = 2
  · subst k2
    cases hpc : p with
    | nil =>
      have : n0 = 0 := by rw [hpl, hpc]; rfl
      subst this
      simp [vow_Dance_l0, hi, ho, wr0, wr1, nb10, nb01, hV0, hV1, hwi, DN, step1, hn0, hn1, hp, hq, z0, hpc]
    | cons x p' =>
      obtain ⟨d1, d2, d3⟩ := drop_cons (hp.trans hpc)
      have hn : 0 < n0 := by rw [hpl, hpc, List.length_cons]; omega
      have g4 := c1 _ (hear_len b x)
      have d1' : L0[l0] = x := by rw [List.getElem?_eq_getElem d3] at d1; exact Option.some.inj d1
      have e1 : n0 - 1 + (1 + l0) = L0.length := by omega
      have e2 : List.drop (1 + l0) L0 = p' := by rw [Nat.add_comm]; exact d2
      have e3 : 1 ≤ n0 := hn
      simp [vow_Dance_l0, hi, ho, wr0, wr1, nb10, nb01, hV0, hV1, hear_r, hb, hwi, DN, step1, hn0, hn1, hp, hq, g4, d1', d3, hn, e1, e2, e3]
  simp [vow_Dance_l0, hi, ho, wr0, wr1, nb10, nb01, hV0, hV1, hwi, DN, step1, hn0, hn1, hp, hq, z0, k8, k5, k9, k2, beqF k8, beqF k5, beqF k9, beqF k2]

set_option maxHeartbeats 4000000 in
theorem round2 {l : List Act} {i : Nat} {V : Nat → Vow} {l0 n0 l1 n1 : Nat} {L0 L1 : List Int} {a b : Vow} {p q : List Int} {k : Int} {r : Int × Int × Int} (hi : i < l.length) (hl : l.length ≤ 1000) (ho : l[i] = (k, 2, r)) (hV0 : V 0 = a) (hV1 : V 1 = b) (hp : L0.drop l0 = p) (hn0 : n0 + l0 = L0.length) (hq : L1.drop l1 = q) (hn1 : n1 + l1 = L1.length)
    (ha : may a) (hb : may b) (hpq : p.length + q.length ≤ i) : (vow_Dance_l0 l ((i : Int), V, l0, n0, l1, n1, (), L0, L1, ())).1 = true ∧ (vow_Dance_l0 l ((i : Int), V, l0, n0, l1, n1, (), L0, L1, ())).2.1 = true ∧ DN (vow_Dance_l0 l ((i : Int), V, l0, n0, l1, n1, (), L0, L1, ())).2.2.1 (i + 1) (flip (step1 b a q p k)) := by
  have hpl : n0 = p.length := by rw [← hp, List.length_drop]; omega
  have hql : n1 = q.length := by rw [← hq, List.length_drop]; omega
  have hwi : IntKind.i64.wrap ((i : Int) + 1) = (i : Int) + 1 := wrap_i64 (by omega) (by omega)
  have c0 : ∀ m : Nat, m ≤ 1 → (n0 + m) * 8 ≤ 140737488355328 := fun m hm => cap (by omega) hm
  have c1 : ∀ m : Nat, m ≤ 1 → (n1 + m) * 8 ≤ 140737488355328 := fun m hm => cap (by omega) hm
  have z0 := c0 0 (by omega)
  have z1 := c1 0 (by omega)
  rw [Nat.add_zero] at z0 z1
  have g1 := c1 _ (grant_len b)
  have g2 := c1 _ (recant_len b)
  have g3 := c1 _ (part_len b)
  by_cases k8 : k = 8
  · subst k8
    simp [vow_Dance_l0, hi, ho, wr0, wr1, nb10, nb01, hV0, hV1, grant_r, hb, hwi, DN, step1, flip, hn0, hn1, hp, hq, g1]
  by_cases k5 : k = 5
  · subst k5
    simp [vow_Dance_l0, hi, ho, wr0, wr1, nb10, nb01, hV0, hV1, recant_r, hb, hwi, DN, step1, flip, hn0, hn1, hp, hq, g2]
  by_cases k9 : k = 9
  · subst k9
    simp [vow_Dance_l0, hi, ho, wr0, wr1, nb10, nb01, hV0, hV1, part_r, hb, hwi, DN, step1, flip, hn0, hn1, hp, hq, g3]
  by_cases k2 : k = 2
  · subst k2
    cases hpc : q with
    | nil =>
      have : n1 = 0 := by rw [hql, hpc]; rfl
      subst this
      simp [vow_Dance_l0, hi, ho, wr0, wr1, nb10, nb01, hV0, hV1, hwi, DN, step1, flip, hn0, hn1, hp, hq, z1, hpc]
    | cons x p' =>
      obtain ⟨d1, d2, d3⟩ := drop_cons (hq.trans hpc)
      have hn : 0 < n1 := by rw [hql, hpc, List.length_cons]; omega
      have g4 := c0 _ (hear_len a x)
      have d1' : L1[l1] = x := by rw [List.getElem?_eq_getElem d3] at d1; exact Option.some.inj d1
      have e1 : n1 - 1 + (1 + l1) = L1.length := by omega
      have e2 : List.drop (1 + l1) L1 = p' := by rw [Nat.add_comm]; exact d2
      have e3 : 1 ≤ n1 := hn
      simp [vow_Dance_l0, hi, ho, wr0, wr1, nb10, nb01, hV0, hV1, hear_r, ha, hwi, DN, step1, flip, hn0, hn1, hp, hq, g4, d1', d3, hn, e1, e2, e3]
  simp [vow_Dance_l0, hi, ho, wr0, wr1, nb10, nb01, hV0, hV1, hwi, DN, step1, flip, hn0, hn1, hp, hq, z1, k8, k5, k9, k2, beqF k8, beqF k5, beqF k9, beqF k2]

theorem round3 {l : List Act} {i : Nat} {V : Nat → Vow} {l0 n0 l1 n1 : Nat} {L0 L1 : List Int} {w : W} (hi : i < l.length) (hl : l.length ≤ 1000) (h1 : l[i].2.1 ≠ 1) (h2 : l[i].2.1 ≠ 2) (hw : -9223372036854775808 ≤ l[i].2.1 ∧ l[i].2.1 ≤ 9223372036854775807) (h : DN ((i : Int), V, l0, n0, l1, n1, (), L0, L1, ()) i w) :
    (vow_Dance_l0 l ((i : Int), V, l0, n0, l1, n1, (), L0, L1, ())).1 = true ∧ (vow_Dance_l0 l ((i : Int), V, l0, n0, l1, n1, (), L0, L1, ())).2.1 = true ∧ DN (vow_Dance_l0 l ((i : Int), V, l0, n0, l1, n1, (), L0, L1, ())).2.2.1 (i + 1) w := by
  have hwi : IntKind.i64.wrap ((i : Int) + 1) = (i : Int) + 1 := wrap_i64 (by omega) (by omega)
  have hc : IntKind.i64.wrap (l[i].2.1 - 1) < 0 ∨ (¬ IntKind.i64.wrap (l[i].2.1 - 1) < 0 ∧ IntKind.i64.wrap (l[i].2.1 - 1) > 1) := by
    by_cases hm : l[i].2.1 = -9223372036854775808
    · rw [hm]; exact .inr ⟨by decide, by decide⟩
    · rw [wrap_i64 (by omega) (by omega)]; omega
  obtain ⟨_, k1, k2, k3, k4, k5, k6⟩ := h
  simp only at k1 k2 k3 k4 k5 k6
  rcases hc with hc | ⟨hc, hc2⟩
  · simp [vow_Dance_l0, hi, hc, hwi, DN, k1, k2, k3, k4, k5, k6]
  · simp [vow_Dance_l0, hi, hc, hc2, hwi, DN, k1, k2, k3, k4, k5, k6]

theorem dance_r {l : List Act} (hl : l.length ≤ 1000) (hw : inI l) : vow_Dance_r l = (true, (run l).1, (run l).2.1, (((run l).2.2.1.length + (run l).2.2.2.length : Nat) : Int), 0) := by
  have key := loopR_by (d := HL.dflt [.bool, (.arr 2 (.row (.prod (.int .i64) (.prod .bool (.prod .bool (.int .i64)))))), .nat, .nat, .nat, .nat, .unit, (.fl (.int .i64)), (.fl (.int .i64))]) (step := vow_Dance_l0 l) (fun s => ∃ i : Nat, i ≤ l.length ∧ DN s i (run (l.take i))) (fun s => l.length - s.1.toNat)
    (fun r => r.2.1 0 = (run l).1 ∧ r.2.1 1 = (run l).2.1 ∧ r.2.2.2.1 = (run l).2.2.1.length ∧ r.2.2.2.2.2.1 = (run l).2.2.2.length)
    ((0 : Int), (fun i => ((([((0 : Int), (false, (false, (0 : Int)))), ((0 : Int), (false, (false, (0 : Int))))] : List (Int × (Bool × (Bool × Int))))[i]?).getD ((0 : Int), (false, (false, (0 : Int)))))), 0, 0, 0, 0, (), ([] : List Int), ([] : List Int), ())
    ⟨0, by omega, by simp [DN, run, w0, zeroV]⟩
    (by
      rintro ⟨j, V, l0, n0, l1, n1, ⟨⟩, L0, L1, ⟨⟩⟩ ⟨i, hi, h⟩
      have h' := h
      obtain ⟨k0, k1, k2, k3, k4, k5, k6⟩ := h
      simp only at k0 k1 k2 k3 k4 k5 k6
      subst k0
      by_cases hlt : i < l.length
      · have hg := run_good (l.take i)
        obtain ⟨g1, g2, g3⟩ := hg
        rw [List.length_take, Nat.min_eq_left hi] at g3
        have hst := run_take hlt
        have hnext : (vow_Dance_l0 l ((i : Int), V, l0, n0, l1, n1, (), L0, L1, ())).1 = true ∧ (vow_Dance_l0 l ((i : Int), V, l0, n0, l1, n1, (), L0, L1, ())).2.1 = true ∧ DN (vow_Dance_l0 l ((i : Int), V, l0, n0, l1, n1, (), L0, L1, ())).2.2.1 (i + 1) (run (l.take (i + 1))) := by
          rw [hst]
          unfold step
          by_cases h1 : l[i].2.1 = 1
          · rw [if_pos h1]
            exact round1 (r := l[i].2.2) hlt hl (by rw [← h1]) k1 k2 k3 k4 k5 k6 g1 g2 g3
          · rw [if_neg h1]
            by_cases h2 : l[i].2.1 = 2
            · rw [if_pos h2]
              exact round2 (r := l[i].2.2) hlt hl (by rw [← h2]) k1 k2 k3 k4 k5 k6 g1 g2 g3
            · rw [if_neg h2]
              exact round3 hlt hl h1 h2 (hw _ (List.getElem_mem hlt)) h'
        obtain ⟨m1, m2, m3⟩ := hnext
        refine ⟨m1, fun _ => ⟨⟨i + 1, hlt, m3⟩, ?_⟩, fun hf => by rw [m2] at hf; cases hf⟩
        have := m3.1
        rw [this]
        simp only
        omega
      · have hieq : i = l.length := by omega
        have hrun : run (l.take i) = run l := by rw [hieq, List.take_length]
        rw [hrun] at k1 k2 k3 k5
        have e1 : n0 = (run l).2.2.1.length := len_of k3 k4
        have e2 : n1 = (run l).2.2.2.length := len_of k5 k6
        refine ⟨by simp [vow_Dance_l0, hlt], fun hf => by simp [vow_Dance_l0, hlt] at hf, fun _ => ⟨k1, k2, e1, e2⟩⟩)
  obtain ⟨k0, k1, k2, k3, k4⟩ := key
  obtain ⟨g1, g2, g3⟩ := run_good l
  have hlen : ¬ ((l.length : Int) > 1000) := by omega
  unfold vow_Dance_r
  simp only [loopD] at *
  rw [k0]
  simp [k1, k2, k3, k4, hlen]
  exact wrap_i64 (by omega) (by omega)

theorem awake_r : withylaw21_awake_r = (true, true) := by
  unfold withylaw21_awake_r
  simp only []
  rw [dance_r (by simp) (by simp [inI])]
  rfl

end Go.Proofs.Ytjeeofakogoboaa.T
