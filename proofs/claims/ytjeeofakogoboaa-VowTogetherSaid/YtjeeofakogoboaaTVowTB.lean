/- Vows: whatever the weather was, the two ends are in a known state. -/
import Derived.Test.YtjeeofakogoboaaTVowFB
import Derived.Test.YtjeeofakogoboaaTVowMB
namespace Go.Proofs.Ytjeeofakogoboaa.T
open Go.Vm Go.Tm
open Go.Proofs.Ytjeeofakogoboaa
set_option linter.unusedVariables false
set_option linter.unusedSimpArgs false

def cW : F.Wd → Int
  | .v => 4 | .r => 5 | .f => 6 | .p => 7
def cM : F.Mi → Int
  | .z => 0 | .o => 1 | .r => 2
def cC : F.Ct → Int
  | .c0 => 0 | .c1 => 1 | .c2 => 2 | .c3 => 3
def cE (x : F.End) : Vow := (cM x.m, x.t, x.b, cC x.o)
def conc (s : F.St) : W := (cE s.a, cE s.b, s.p.map cW, s.q.map cW)

theorem grant_c (x : F.End) (h : F.low x = true) : (grant (cE x)).1 = cE (F.grantF x).1 ∧ (grant (cE x)).2.2 = (F.grantF x).2.map cW := by
  obtain ⟨m, t, b, o⟩ := x
  cases m <;> cases t <;> cases b <;> cases o <;> first | (cases h; done) | decide
theorem recant_c (x : F.End) : (recant (cE x)).1 = cE (F.recantF x).1 ∧ (recant (cE x)).2.2 = (F.recantF x).2.map cW := by
  obtain ⟨m, t, b, o⟩ := x
  cases m <;> cases t <;> cases b <;> cases o <;> decide
theorem part_c (x : F.End) : (part (cE x)).1 = cE (F.partF x).1 ∧ (part (cE x)).2.2 = (F.partF x).2.map cW := by
  obtain ⟨m, t, b, o⟩ := x
  cases m <;> cases t <;> cases b <;> cases o <;> decide
theorem hear_c (x : F.End) (h : F.low x = true) (w : F.Wd) : (hear (cE x) (cW w)).1 = cE (F.hearF x w).1 ∧ (hear (cE x) (cW w)).2.2 = (F.hearF x w).2.map cW := by
  obtain ⟨m, t, b, o⟩ := x
  cases o <;> first | (cases h; done) | (cases w <;> cases m <;> cases t <;> cases b <;> decide)

theorem app_eq : ∀ p l : List F.Wd, F.app p l = p ++ l
  | [], l => rfl
  | x :: p, l => by rw [F.app, app_eq p l]; rfl

theorem known_parts {s : F.St} (h : F.known s = true) : F.known (F.stepF s .up) = true ∧ F.known (F.stepF s .late) = true ∧ F.known (F.stepF s .down) = true ∧ F.known (F.stepF s .deliver) = true ∧ F.known (F.flipF s) = true ∧ F.calm s = true ∧ F.low s.a = true ∧ F.low s.b = true := by
  have := F.known_good h
  unfold F.goodS at this
  simp only [Bool.and_eq_true] at this
  exact this

theorem sim1 {s : F.St} (h : F.known s = true) (k : Int) : ∃ s', F.known s' = true ∧ step1 (cE s.a) (cE s.b) (s.p.map cW) (s.q.map cW) k = conc s' := by
  obtain ⟨k1, k2, k3, k4, k5, k6, k7, k8⟩ := known_parts h
  unfold step1
  by_cases e8 : k = 8
  · refine ⟨_, k1, ?_⟩
    rw [if_pos e8]
    obtain ⟨g1, g2⟩ := grant_c s.a k7
    rw [g1, g2]
    simp only [conc, F.stepF, app_eq, List.map_append]
  rw [if_neg e8]
  by_cases e5 : k = 5
  · refine ⟨_, k2, ?_⟩
    rw [if_pos e5]
    obtain ⟨g1, g2⟩ := recant_c s.a
    rw [g1, g2]
    simp only [conc, F.stepF, app_eq, List.map_append]
  rw [if_neg e5]
  by_cases e9 : k = 9
  · refine ⟨_, k3, ?_⟩
    rw [if_pos e9]
    obtain ⟨g1, g2⟩ := part_c s.a
    rw [g1, g2]
    simp only [conc, F.stepF, app_eq, List.map_append]
  rw [if_neg e9]
  by_cases e2 : k = 2
  · refine ⟨_, k4, ?_⟩
    rw [if_pos e2]
    obtain ⟨a, b, p, q⟩ := s
    cases p with
    | nil => rfl
    | cons x p' =>
      obtain ⟨g1, g2⟩ := hear_c b k8 x
      simp only [List.map_cons, g1, g2, conc, F.stepF, app_eq, List.map_append]
  rw [if_neg e2]
  exact ⟨s, h, rfl⟩

theorem sim {s : F.St} (h : F.known s = true) (o : Act) : ∃ s', F.known s' = true ∧ step (conc s) o = conc s' := by
  unfold step
  by_cases e1 : o.2.1 = 1
  · rw [if_pos e1]
    exact sim1 h o.1
  rw [if_neg e1]
  by_cases e2 : o.2.1 = 2
  · rw [if_pos e2]
    obtain ⟨s', h1, h2⟩ := sim1 (known_parts h).2.2.2.2.1 o.1
    refine ⟨F.flipF s', (known_parts h1).2.2.2.2.1, ?_⟩
    have : step1 (conc s).2.1 (conc s).1 (conc s).2.2.2 (conc s).2.2.1 o.1 = conc s' := h2
    rw [this]; rfl
  · rw [if_neg e2]
    exact ⟨s, h, rfl⟩

theorem known_zero : F.known ⟨⟨.z, false, false, .c0⟩, ⟨.z, false, false, .c0⟩, [], []⟩ = true := by decide

theorem sim_run (l : List Act) : ∃ s, F.known s = true ∧ run l = conc s := by
  have key : ∀ (l : List Act) (s : F.St), F.known s = true → ∃ s', F.known s' = true ∧ l.foldl step (conc s) = conc s' := by
    intro l
    induction l with
    | nil => intro s h; exact ⟨s, h, rfl⟩
    | cons o l ih =>
      intro s h
      obtain ⟨s1, h1, h2⟩ := sim h o
      rw [List.foldl_cons, h2]
      exact ih s1 h1
  exact key l _ known_zero

/-- When nothing is on the ways any more. -/
theorem quiet {w : W} (h : ∃ s, F.known s = true ∧ w = conc s) (hp : w.2.2.1 = []) (hq : w.2.2.2 = []) :
    w.1.2.2.1 = w.2.1.2.2.1 ∧ (w.1.1 ≠ 1 ∨ w.2.1.1 ≠ 1) ∧ w.1.1 ≠ 2 ∧ w.2.1.1 ≠ 2 ∧ w.1.2.1 = decide (w.2.1.1 = 1) ∧ w.2.1.2.1 = decide (w.1.1 = 1) ∧ w.1.2.2.2 = 0 ∧ w.2.1.2.2.2 = 0 := by
  obtain ⟨⟨a, b, p, q⟩, h, rfl⟩ := h
  have hp' : p = [] := by simpa [conc] using hp
  have hq' : q = [] := by simpa [conc] using hq
  clear hp hq
  subst hp'; subst hq'
  have hc := (known_parts h).2.2.2.2.2.1
  unfold F.calm at hc
  simp only at hc
  split at hc
  all_goals first | (cases hc; done) | (simp [conc, cE, cM, cC])

def wt : List Int → Nat
  | [] => 0
  | x :: l => (if x = 5 then 2 else 1) + wt l
theorem wt_app : ∀ p q : List Int, wt (p ++ q) = wt p + wt q
  | [], q => by simp [wt]
  | x :: p, q => by rw [List.cons_append, wt, wt, wt_app p q, Nat.add_assoc]
theorem wt_zero : ∀ {p : List Int}, wt p = 0 → p = []
  | [], _ => rfl
  | x :: p, h => by unfold wt at h; split at h <;> omega
theorem len_wt : ∀ p : List Int, p.length ≤ wt p
  | [] => Nat.le_refl _
  | x :: p => by unfold wt; have := len_wt p; rw [List.length_cons]; split <;> omega
theorem wt_one {p : List Int} (h : p.length ≤ 1) : wt p ≤ 2 := by
  match p, h with
  | [], _ => exact Nat.zero_le _
  | [x], _ => unfold wt wt; split <;> omega

def load (w : W) : Nat := wt w.2.2.1 + wt w.2.2.2

theorem hear_wt (v : Vow) (x : Int) : wt (hear v x).2.2 + 1 ≤ wt [x] := by
  unfold hear wt
  by_cases h5 : x = 5
  · subst h5; simp [wt]
  · rw [if_neg h5, if_neg h5]
    have : (if x = 4 then (if 0 < v.1 then (bindV v, ((true, false, false) : Told), ([] : List Int)) else if v.2.2.1 = false then ((v.1, true, v.2.2), noTold, []) else (v, noTold, [])) else (if x = 6 then (if 0 < v.2.2.2 then ((v.1, v.2.1, v.2.2.1, v.2.2.2 - 1), noTold, []) else if v.1 = 2 then ((0, v.2), (false, false, true), []) else (v, noTold, [])) else if x = 7 then (if v.2.2.1 = true then ((v.1, v.2.1, false, v.2.2.2), (false, true, false), []) else (v, noTold, [])) else (v, noTold, []))).2.2 = [] := by
      (repeat' split) <;> rfl
    rw [this]
    simp [wt]

theorem load_step1 (a b : Vow) (p q : List Int) (k : Int) : load (step1 a b p q k) ≤ wt p + wt q + 2 := by
  have g1 := wt_one (grant_len a)
  have g2 := wt_one (recant_len a)
  have g3 := wt_one (part_len a)
  unfold step1 load
  split
  · simp only [wt_app]; omega
  split
  · simp only [wt_app]; omega
  split
  · simp only [wt_app]; omega
  split
  · split
    · simp only [wt]; omega
    · rename_i x p'
      have := hear_wt b x
      simp only [wt_app, wt] at this ⊢
      omega
  · simp only; omega

theorem load_step (w : W) (o : Act) : load (step w o) ≤ load w + 2 := by
  unfold step
  split
  · exact load_step1 _ _ _ _ _
  split
  · have := load_step1 w.2.1 w.1 w.2.2.2 w.2.2.1 o.1
    unfold flip load at *
    simp only at this ⊢
    omega
  · omega

theorem load_run (l : List Act) : load (run l) ≤ 2 * l.length := by
  have key : ∀ (l : List Act) (w : W), load (l.foldl step w) ≤ load w + 2 * l.length := by
    intro l
    induction l with
    | nil => intro w; exact Nat.le_refl _
    | cons o l ih =>
      intro w
      have h1 := ih (step w o)
      have h2 := load_step w o
      rw [List.foldl_cons, List.length_cons]
      omega
  have := key l w0
  have hz : load w0 = 0 := rfl
  unfold run
  omega

theorem load_del {a b : Vow} {p q : List Int} (hp : p ≠ []) : load (step1 a b p q 2) + 1 ≤ wt p + wt q := by
  unfold step1 load
  rw [if_neg (by decide), if_neg (by decide), if_neg (by decide), if_pos rfl]
  cases p with
  | nil => exact absurd rfl hp
  | cons x p' =>
    have := hear_wt b x
    simp only [wt_app, wt] at this ⊢
    omega

theorem load_a {w : W} (hp : w.2.2.1 ≠ []) : load (step w (2, 1, 0, 0, 0)) + 1 ≤ load w := by
  unfold step
  rw [if_pos rfl]
  exact load_del hp
theorem load_b {w : W} (hq : w.2.2.2 ≠ []) : load (step w (2, 2, 0, 0, 0)) + 1 ≤ load w := by
  unfold step
  rw [if_neg (by simp), if_pos rfl]
  have := load_del (a := w.2.1) (b := w.1) (q := w.2.2.1) hq
  unfold flip load at *
  simp only at this ⊢
  omega

end Go.Proofs.Ytjeeofakogoboaa.T
