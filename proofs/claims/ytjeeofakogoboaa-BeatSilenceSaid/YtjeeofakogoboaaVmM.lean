/- The small machine calls functions: what goes in, what comes back. It states nothing of any program. -/
import Derived.Test.YtjeeofakogoboaaVmL
namespace Go.Vm
set_option linter.unusedVariables false
set_option linter.unusedSimpArgs false

/-- The place of a number among some. -/
def idx : List Nat → Nat → Option Nat
  | [], _ => none
  | x :: l, i => if x = i then some 0 else (idx l i).map (· + 1)

theorem idx_some : ∀ {l : List Nat} {i j : Nat}, idx l i = some j → l[j]? = some i
  | [], i, j, h => by simp [idx] at h
  | x :: l, i, j, h => by
    simp only [idx] at h
    split at h
    · rename_i e; simp only [Option.some.injEq] at h; subst h; simp [e]
    · obtain ⟨k, hk, rfl⟩ := Option.map_eq_some_iff.1 h
      simpa using idx_some hk

theorem idx_none : ∀ {l : List Nat} {i : Nat}, idx l i = none → i ∉ l
  | [], i, _ => by simp
  | x :: l, i, h => by
    simp only [idx] at h
    split at h
    · cases h
    · rename_i e
      have := idx_none (Option.map_eq_none_iff.1 h)
      simp; exact ⟨fun e' => e e'.symm, this⟩

theorem idx_get : ∀ {l : List Nat} (_ : l.Nodup) {i j : Nat} (_ : l[j]? = some i), idx l i = some j
  | [], _, i, j, h => by simp at h
  | x :: l, hn, i, 0, h => by simp at h; simp [idx, h]
  | x :: l, hn, i, j + 1, h => by
    simp only [List.getElem?_cons_succ] at h
    have hx : x ≠ i := fun e => (List.nodup_cons.1 hn).1 (e ▸ List.mem_of_getElem? h)
    simp [idx, hx, idx_get (List.nodup_cons.1 hn).2 h]

mutual
/-- A cell, as a callee sees it: what is picked keeps its place; other arrays are lent, to be read. -/
def expC (pick lend : List Nat) (hp : List Ob) : C → Option C
  | .sc v => match v with
    | .slice none 0 0 => some (.sl 0 [])
    | v => some (.sc v)
  | .sl n cs => some (.sl n cs)
  | .loc cs off => some (.loc cs off)
  | .ar id ver off n => match idx pick id with
    | some j => some (.ar j ver off n)
    | none => match hp[id]? with
      | some (.cells sz ver' cs _) => if ver = ver' ∧ ver ≠ 0 ∧ lend.contains id = true then some (.sl n ((cs.drop off).take (n * sz))) else none
      | _ => none
  | .ptr id ver off => match idx pick id with
    | some j => some (.ptr j ver off)
    | none => none
  | .fn f caps => match expL pick lend hp caps with
    | some cs => some (.fn f cs)
    | none => none
  | .dead => some .dead
def expL (pick lend : List Nat) (hp : List Ob) : List C → Option (List C)
  | [] => some []
  | c :: cs => match expC pick lend hp c, expL pick lend hp cs with
    | some c, some cs => some (c :: cs)
    | _, _ => none
end

def expV (pick lend : List Nat) (hp : List Ob) : V → Option V
  | .one c => (expC pick lend hp c).map .one
  | .agg cs => (expL pick lend hp cs).map .agg

def expD (pick lend : List Nat) (hp : List Ob) : D → Option D
  | .v x => (expV pick lend hp x).map .v
  | _ => none

def expDs (pick lend : List Nat) (hp : List Ob) : List D → Option (List D)
  | [] => some []
  | d :: ds => match expD pick lend hp d, expDs pick lend hp ds with
    | some d, some ds => some (d :: ds)
    | _, _ => none

def expOb (pick lend : List Nat) (hp : List Ob) : Ob → Option Ob
  | .cells sz ver cs fz => if ver = 0 then (expL pick lend hp cs).map fun cs => .cells sz ver cs fz else some (.cells sz ver cs fz)
  | .gone => some .gone

/-- What is picked, as the callee sees it. -/
def expObs (pick lend : List Nat) (hp : List Ob) : List Nat → Option (List Ob)
  | [] => some []
  | id :: ids => match hp[id]? with
    | some ob => match expOb pick lend hp ob, expObs pick lend hp ids with
      | some ob, some obs => some (ob :: obs)
      | _, _ => none
    | none => none

/-- The caller's number of what the callee calls j. -/
def pk (pick : List Nat) (n j : Nat) : Nat := if j < pick.length then pick.getD j 0 else n + (j - pick.length)

mutual
def impC (pick : List Nat) (n : Nat) : C → C
  | .ar id ver off k => .ar (pk pick n id) ver off k
  | .ptr id ver off => .ptr (pk pick n id) ver off
  | .fn f caps => .fn f (impL pick n caps)
  | c => c
def impL (pick : List Nat) (n : Nat) : List C → List C
  | [] => []
  | c :: cs => impC pick n c :: impL pick n cs
end

def impV (pick : List Nat) (n : Nat) : V → V
  | .one c => .one (impC pick n c)
  | .agg cs => .agg (impL pick n cs)

def impVs (pick : List Nat) (n : Nat) : List V → List V
  | [] => []
  | x :: xs => impV pick n x :: impVs pick n xs

def impD (pick : List Nat) (n : Nat) : D → D
  | .v x => .v (impV pick n x)
  | .tup xs => .tup (impVs pick n xs)
  | .dead => .dead

def impOb (pick : List Nat) (n : Nat) : Ob → Ob
  | .cells sz ver cs fz => .cells sz ver (if ver = 0 then impL pick n cs else cs) fz
  | .gone => .gone

def frzOb (frz : Bool) (lend : List Nat) (i : Nat) : Ob → Ob
  | .cells sz ver cs fz => .cells sz ver cs (fz || (frz && lend.contains i))
  | .gone => .gone

/-- What is kept behind a call. -/
def backGo (pick lend : List Nat) (frz : Bool) (n : Nat) (hp' : List Ob) : Nat → List Ob → List Ob
  | _, [] => []
  | i, ob :: rest => (match idx pick i with
    | some j => match hp'[j]? with
      | some ob' => impOb pick n ob'
      | none => .gone
    | none => frzOb frz lend i ob) :: backGo pick lend frz n hp' (i + 1) rest

def impObs (pick : List Nat) (n : Nat) : List Ob → List Ob
  | [] => []
  | o :: os => impOb pick n o :: impObs pick n os

def back (pick lend : List Nat) (frz : Bool) (hp hp' : List Ob) : List Ob :=
  backGo pick lend frz hp.length hp' 0 hp ++ impObs pick hp.length (hp'.drop pick.length)

mutual
/-- It leads to nothing that is only read. -/
def noS : C → Bool
  | .sl _ _ => false
  | .loc _ _ => false
  | .fn _ caps => noSs caps
  | _ => true
def noSs : List C → Bool
  | [] => true
  | c :: cs => noS c && noSs cs
end

def NoSV : V → Prop
  | .one c => noS c = true
  | .agg cs => noSs cs = true
def NoSD : D → Prop
  | .v x => NoSV x
  | .tup xs => ∀ x ∈ xs, NoSV x
  | .dead => True
def NoSOb : Ob → Prop
  | .cells _ _ cs _ => ∀ c ∈ cs, noS c = true
  | .gone => True

theorem impL_eq (pick : List Nat) (n : Nat) : ∀ cs : List C, impL pick n cs = cs.map (impC pick n)
  | [] => rfl
  | c :: cs => by simp [impL, impL_eq pick n cs]
theorem impVs_eq (pick : List Nat) (n : Nat) : ∀ cs : List V, impVs pick n cs = cs.map (impV pick n)
  | [] => rfl
  | c :: cs => by simp [impVs, impVs_eq pick n cs]
theorem impObs_eq (pick : List Nat) (n : Nat) : ∀ cs : List Ob, impObs pick n cs = cs.map (impOb pick n)
  | [] => rfl
  | c :: cs => by simp [impObs, impObs_eq pick n cs]
theorem noSs_mem : ∀ {cs : List C}, noSs cs = true ↔ ∀ c ∈ cs, noS c = true
  | [] => by simp [noSs]
  | c :: cs => by simp [noSs, noSs_mem (cs := cs)]

theorem backGo_length (pick lend : List Nat) (frz : Bool) (n : Nat) (hp' : List Ob) : ∀ (i : Nat) (l : List Ob), (backGo pick lend frz n hp' i l).length = l.length
  | _, [] => rfl
  | i, ob :: l => by simp [backGo, backGo_length pick lend frz n hp' (i + 1) l]

theorem backGo_get (pick lend : List Nat) (frz : Bool) (n : Nat) (hp' : List Ob) : ∀ (i : Nat) (l : List Ob) (k : Nat), (backGo pick lend frz n hp' i l)[k]? =
    (l[k]?).map fun ob => match idx pick (i + k) with
      | some j => match hp'[j]? with
        | some ob' => impOb pick n ob'
        | none => .gone
      | none => frzOb frz lend (i + k) ob
  | _, [], k => by simp [backGo]
  | i, ob :: l, 0 => by simp [backGo]
  | i, ob :: l, k + 1 => by
    simp only [backGo, List.getElem?_cons_succ]
    rw [backGo_get pick lend frz n hp' (i + 1) l k, show i + 1 + k = i + (k + 1) by omega]

theorem back_old {pick lend : List Nat} {frz : Bool} {hp hp' : List Ob} {i : Nat} (hi : i < hp.length) : (back pick lend frz hp hp')[i]? =
    (hp[i]?).map fun ob => match idx pick i with
      | some j => match hp'[j]? with
        | some ob' => impOb pick hp.length ob'
        | none => .gone
      | none => frzOb frz lend i ob := by
  unfold back
  rw [List.getElem?_append_left (by rw [backGo_length]; exact hi), backGo_get]
  simp

theorem back_new {pick lend : List Nat} {frz : Bool} {hp hp' : List Ob} {i : Nat} (hi : hp.length ≤ i) : (back pick lend frz hp hp')[i]? = (hp'[pick.length + (i - hp.length)]?).map (impOb pick hp.length) := by
  unfold back
  rw [List.getElem?_append_right (by rw [backGo_length]; exact hi), backGo_length, impObs_eq, List.getElem?_map, List.getElem?_drop]

theorem expObs_get {pick lend : List Nat} {hp : List Ob} : ∀ {ids : List Nat} {H0 : List Ob}, expObs pick lend hp ids = some H0 → H0.length = ids.length ∧ ∀ (j id : Nat), ids[j]? = some id → ∃ ob ob', hp[id]? = some ob ∧ expOb pick lend hp ob = some ob' ∧ H0[j]? = some ob'
  | [], H0, h => by simp only [expObs, Option.some.injEq] at h; subst h; exact ⟨rfl, fun j id hj => by simp at hj⟩
  | id0 :: ids, H0, h => by
    simp only [expObs] at h
    split at h
    · rename_i ob hob
      split at h
      · rename_i ob' obs h1 h2
        simp only [Option.some.injEq] at h
        subst h
        obtain ⟨k1, k2⟩ := expObs_get h2
        refine ⟨by simp [k1], fun j id hj => ?_⟩
        cases j with
        | zero => simp at hj; subst hj; exact ⟨ob, ob', hob, h1, rfl⟩
        | succ j => simpa using k2 j id (by simpa using hj)
      · cases h
    · cases h

theorem expL_length {pick lend : List Nat} {hp : List Ob} : ∀ {cs cs' : List C}, expL pick lend hp cs = some cs' → cs'.length = cs.length
  | [], cs', h => by simp only [expL, Option.some.injEq] at h; subst h; rfl
  | c :: cs, cs', h => by
    simp only [expL] at h
    split at h
    · rename_i c1 cs1 h1 h2
      simp only [Option.some.injEq] at h
      subst h
      simp [expL_length h2]
    · cases h

/-- What a picked thing is, as the callee sees it: its size, version and length stay. -/
theorem expOb_cells {pick lend : List Nat} {hp : List Ob} {ob : Ob} {sz ver : Nat} {cs' : List C} {fz : Bool} (h : expOb pick lend hp ob = some (.cells sz ver cs' fz)) :
    ∃ cs, ob = .cells sz ver cs fz ∧ cs'.length = cs.length ∧ ((ver = 0 ∧ expL pick lend hp cs = some cs') ∨ (ver ≠ 0 ∧ cs' = cs)) := by
  cases ob with
  | gone => simp [expOb] at h
  | cells sz0 ver0 cs0 fz0 =>
    simp only [expOb] at h
    split at h
    · rename_i hv
      obtain ⟨cs1, h1, h2⟩ := Option.map_eq_some_iff.1 h
      simp only [Ob.cells.injEq] at h2
      obtain ⟨rfl, rfl, rfl, rfl⟩ := h2
      exact ⟨cs0, rfl, expL_length h1, .inl ⟨hv, h1⟩⟩
    · rename_i hv
      simp only [Option.some.injEq, Ob.cells.injEq] at h
      obtain ⟨rfl, rfl, rfl, rfl⟩ := h
      exact ⟨cs0, rfl, rfl, .inr ⟨hv, rfl⟩⟩

section
variable {β : Nat → Option (Nat × Nat)} {hp : List Ob} {S : Nat → Nat → Prop} {w : World} {Wr : Nat → Prop}

/-- The cells of arrays that are lent. -/
def Lent (β : Nat → Option (Nat × Nat)) (hp : List Ob) (pick lend : List Nat) (b k : Nat) : Prop :=
  ∃ id sz ver cs fz o, id ∉ pick ∧ id ∈ lend ∧ hp[id]? = some (.cells sz ver cs fz) ∧ ver ≠ 0 ∧ β id = some (b, o) ∧ o ≤ k ∧ k < o + cs.length

def SC (β : Nat → Option (Nat × Nat)) (hp : List Ob) (S : Nat → Nat → Prop) (pick lend : List Nat) (b k : Nat) : Prop := S b k ∨ Lent β hp pick lend b k

mutual
theorem expC_sound (h : HRel β hp S w Wr) {pick lend : List Nat} {H0 : List Ob} (hH : expObs pick lend hp pick = some H0) : ∀ (c c' : C) (u : Value), RelC β hp S w c u → expC pick lend hp c = some c' →
    RelC (fun j => (pick[j]?).bind β) H0 (SC β hp S pick lend) w c' u
  | .sc v, c', u, hr, he => by
    simp only [RelC, RelP] at hr
    simp only [expC] at he
    split at he
    · simp only [Option.some.injEq] at he
      subst he
      simp only [RelC, RelP]
      exact ⟨none, 0, hr.1, Nat.le_refl _, .inl ⟨trivial, trivial⟩⟩
    · simp only [Option.some.injEq] at he
      subst he
      simp only [RelC, RelP]
      exact hr
  | .sl n cs, c', u, hr, he => by
    simp only [expC, Option.some.injEq] at he
    subst he
    simp only [RelC] at hr ⊢
    exact RelP.step (fun b k hs => .inl hs) (fun _ _ _ => rfl) _ _ hr
  | .loc cs off, c', u, hr, he => by
    simp only [expC, Option.some.injEq] at he
    subst he
    simp only [RelC] at hr ⊢
    exact RelP.step (fun b k hs => .inl hs) (fun _ _ _ => rfl) _ _ hr
  | .dead, c', u, hr, he => by
    simp only [expC, Option.some.injEq] at he
    subst he
    simp only [RelC, RelP] at hr ⊢
    exact hr
  | .fn f caps, c', u, hr, he => by
    simp only [expC] at he
    split at he
    · rename_i cs hcs
      simp only [Option.some.injEq] at he
      subst he
      simp only [RelC] at hr ⊢
      obtain ⟨us, h1, h2⟩ := hr
      exact ⟨us, h1, expL_sound h hH caps cs us.toList h2 hcs⟩
    · cases he
  | .ptr id ver off, c', u, hr, he => by
    simp only [expC] at he
    split at he
    · rename_i j hj
      simp only [Option.some.injEq] at he
      subst he
      simp only [RelC] at hr ⊢
      obtain ⟨hu, hlt, hs⟩ := hr
      have hp2 := idx_some hj
      obtain ⟨hl, hg⟩ := expObs_get hH
      refine ⟨hu, by rw [hl]; exact (List.getElem?_eq_some_iff.1 hp2).1, fun sz ver' cs fz hc => ?_⟩
      obtain ⟨ob, ob', g1, g2, g3⟩ := hg j id hp2
      rw [g3] at hc
      injection hc with hc
      subst hc
      obtain ⟨cs0, e1, _, _⟩ := expOb_cells g2
      subst e1
      obtain ⟨q1, q2⟩ := hs sz ver' cs0 fz g1
      refine ⟨q1, fun e => ?_⟩
      obtain ⟨b, o, q3, q4⟩ := q2 e
      exact ⟨b, o, by simp [hp2, q3], q4⟩
    · cases he
  | .ar id ver off n, c', u, hr, he => by
    simp only [expC] at he
    simp only [RelC] at hr
    obtain ⟨hu, hlt, hs⟩ := hr
    split at he
    · rename_i j hj
      simp only [Option.some.injEq] at he
      subst he
      simp only [RelC]
      have hp2 := idx_some hj
      obtain ⟨hl, hg⟩ := expObs_get hH
      refine ⟨hu, by rw [hl]; exact (List.getElem?_eq_some_iff.1 hp2).1, fun sz ver' cs fz hc => ?_⟩
      obtain ⟨ob, ob', g1, g2, g3⟩ := hg j id hp2
      rw [g3] at hc
      injection hc with hc
      subst hc
      obtain ⟨cs0, e1, e2, _⟩ := expOb_cells g2
      subst e1
      obtain ⟨q1, q2⟩ := hs sz ver' cs0 fz g1
      refine ⟨q1, fun e => ?_⟩
      obtain ⟨q3, q4⟩ := q2 e
      refine ⟨by rw [e2]; exact q3, ?_⟩
      rcases q4 with q4 | ⟨b, o, cap, e', arr, q5, q6⟩
      · exact .inl q4
      · exact .inr ⟨b, o, cap, e', arr, by simp [hp2, q5], q6⟩
    · rename_i hj
      split at he
      · rename_i sz ver' cs fz hid
        split at he
        · rename_i hc
          obtain ⟨rfl, hv0, hlend⟩ := hc
          simp only [Option.some.injEq] at he
          subst he
          simp only [RelC, RelP]
          obtain ⟨_, q2⟩ := hs sz ver cs fz hid
          obtain ⟨q3, q4⟩ := q2 rfl
          rcases q4 with ⟨hn, a, hu2⟩ | ⟨b, o, cap, e', arr, q5, q6, q7, q8, q9⟩
          · exact ⟨a, 0, by rw [hu2, hn], by omega, .inl ⟨hn, by rw [hn]; simp⟩⟩
          · refine ⟨_, cap, q6, q7, .inr ⟨b, o + off, rfl, ?_⟩⟩
            obtain ⟨hsz, h'⟩ := h.cells id sz ver cs fz hid
            rcases h' with h' | ⟨b', o', arr', e, k1, k2, k3, k4, k5, k6⟩
            · rw [h'.1] at q5; cases q5
            rw [q5] at k1
            simp only [Option.some.injEq, Prod.mk.injEq] at k1
            obtain ⟨rfl, rfl⟩ := k1
            have hl0 : Lies β hp S w cs b o := k5
            have hl1 := ((hl0.plain (hsz.2 hv0)).drop off).take (n * sz)
            refine RelAt.of_liesP (fun j c hc => ?_) (fun j hjl => ?_)
            · obtain ⟨u2, m1, m2⟩ := hl1 j c hc
              exact ⟨u2, m1, RelP.step (fun b k hs => .inl hs) (fun _ _ _ => rfl) _ _ m2⟩
            · rw [List.length_take, List.length_drop] at hjl
              exact .inr ⟨id, sz, ver, cs, fz, o, idx_none hj, by simpa using hlend, hid, hv0, q5, by omega, by omega⟩
        · cases he
      · cases he
theorem expL_sound (h : HRel β hp S w Wr) {pick lend : List Nat} {H0 : List Ob} (hH : expObs pick lend hp pick = some H0) : ∀ (cs cs' : List C) (us : List Value), RelL β hp S w cs us → expL pick lend hp cs = some cs' →
    RelL (fun j => (pick[j]?).bind β) H0 (SC β hp S pick lend) w cs' us
  | [], cs', us, hr, he => by
    simp only [expL, Option.some.injEq] at he
    subst he
    simp only [RelL] at hr ⊢
    exact hr
  | c :: cs, cs', us, hr, he => by
    simp only [expL] at he
    split at he
    · rename_i c1 cs1 h1 h2
      simp only [Option.some.injEq] at he
      subst he
      simp only [RelL] at hr ⊢
      obtain ⟨u, us', e1, e2, e3⟩ := hr
      exact ⟨u, us', e1, expC_sound h hH c c1 u e2 h1, expL_sound h hH cs cs1 us' e3 h2⟩
    · cases he
end

theorem expDs_sound (h : HRel β hp S w Wr) {pick lend : List Nat} {H0 : List Ob} (hH : expObs pick lend hp pick = some H0) : ∀ (ds ds' : List D) (us : List Value), RelDs β hp S w ds us → expDs pick lend hp ds = some ds' →
    RelDs (fun j => (pick[j]?).bind β) H0 (SC β hp S pick lend) w ds' us
  | [], ds', us, hr, he => by
    simp only [expDs, Option.some.injEq] at he
    subst he
    exact hr
  | d :: ds, ds', us, hr, he => by
    simp only [expDs] at he
    split at he
    · rename_i d1 ds1 h1 h2
      simp only [Option.some.injEq] at he
      subst he
      obtain ⟨u, us', e1, e2, e3⟩ := hr
      refine ⟨u, us', e1, ?_, expDs_sound h hH ds ds1 us' e3 h2⟩
      cases d with
      | v x =>
        simp only [expD] at h1
        obtain ⟨x1, hx, rfl⟩ := Option.map_eq_some_iff.1 h1
        cases x with
        | one c =>
          simp only [expV] at hx
          obtain ⟨c1, hc, rfl⟩ := Option.map_eq_some_iff.1 hx
          exact expC_sound h hH c c1 u e2 hc
        | agg cs =>
          simp only [expV] at hx
          obtain ⟨cs1, hc, rfl⟩ := Option.map_eq_some_iff.1 hx
          obtain ⟨vs, g1, g2⟩ := e2
          exact ⟨vs, g1, expL_sound h hH cs cs1 vs.toList g2 hc⟩
      | tup xs => simp [expD] at h1
      | dead => simp [expD] at h1
    · cases he

end
end Go.Vm
