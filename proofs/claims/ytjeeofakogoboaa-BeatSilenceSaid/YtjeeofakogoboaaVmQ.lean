/- The small machine runs whole functions: what is reckoned is what Go's machine does. It states nothing of any program. -/
import Derived.Test.YtjeeofakogoboaaVmW
import Derived.Test.YtjeeofakogoboaaVmX
namespace Go.Vm
set_option linter.unusedVariables false
set_option linter.unusedSimpArgs false

def exOf : Nat → Ex
  | 0 => .ret
  | n + 1 => .exit n

abbrev OutE := Option (Ex × List D × List Ob × List Tell × List Prop)

def moreE (ps : List Prop) : OutE → OutE
  | some (e, sl, hp, ts, ps') => some (e, sl, hp, ts, ps ++ ps')
  | none => none

/-- How code goes: m: how many things are kept that are the caller's. -/
def exec (P : Program) (m : Nat) : Code → List D → List Ob → List Tell → OutE
  | .skip, sl, hp, ts => some (.normal, sl, hp, ts, [])
  | .label _, sl, hp, ts => some (.normal, sl, hp, ts, [])
  | .region _ ops draw, sl, hp, ts => match draw with
    | true => match regionD P m ops ops.toList sl hp ts with
      | some (sl, hp, ts, ps, T) => match drawOk ops T with | true => some (.normal, sl, hp, ts, ps) | false => none
      | none => none
    | false => match region P ops ops.toList [] sl hp ts with
      | some (sl, hp, ts, ps) => some (.normal, sl, hp, ts, ps)
      | none => none
  | .seq a b, sl, hp, ts => match exec P m a sl hp ts with
    | some (.normal, sl, hp, ts, ps) => moreE ps (exec P m b sl hp ts)
    | r => r
  | .cond c x y, sl, hp, ts => match evl sl c, ts with
    | .v (.one (.sc (.bool v))), .br t :: ts => moreE [v = t] (match t with | true => exec P m x sl hp ts | false => exec P m y sl hp ts)
    | _, _ => none
  | .block id b, sl, hp, ts => match exec P m b sl hp ts with
    | some (.exit j, sl, hp, ts, ps) => match j == id with
      | true => some (.normal, sl, hp, ts, ps)
      | false => some (.exit j, sl, hp, ts, ps)
    | r => r
  | .loop b, sl, hp, ts => match ts with
    | .loop nils live order e sl2 hp2 :: ts =>
      match nilS nils sl hp with
      | (sl1, hp1) => if order.Nodup ∧ order.all (fun id => decide (m ≤ id)) = true then
          some (exOf e, sl2, hp2, ts, [SimL P m b (gcS m live order 0 (rstS m hp1 sl1)) (gcH m order (rstH m hp1)) (exOf e) sl2 hp2]) else none
    | _ => none
  | .exit id, sl, hp, ts => some (.exit id, sl, hp, ts, [])
  | .ret, sl, hp, ts => some (.ret, sl, hp, ts, [])
  | _, _, _, _ => none

theorem moreE_some {ps : List Prop} {r : OutE} {e : Ex} {sl' : List D} {hp' : List Ob} {ts' : List Tell} {qs : List Prop} (h : moreE ps r = some (e, sl', hp', ts', qs)) : ∃ ps', r = some (e, sl', hp', ts', ps') ∧ qs = ps ++ ps' := by
  unfold moreE at h
  split at h
  · simp only [Option.some.injEq, Prod.mk.injEq] at h
    obtain ⟨rfl, rfl, rfl, rfl, rfl⟩ := h
    exact ⟨_, rfl, rfl⟩
  · cases h

theorem exec_sound {P : Program} (hmx : P.follows .mixedOrders = true) {m : Nat} : ∀ (c : Code) (sl : List D) (hp : List Ob) (ts : List Tell) (e : Ex) (sl' : List D) (hp' : List Ob) (ts' : List Tell) (ps : List Prop),
    exec P m c sl hp ts = some (e, sl', hp', ts', ps) → (∀ p ∈ ps, p) → Sim P m c sl hp e sl' hp'
  | .skip, sl, hp, ts, e, sl', hp', ts', ps, h, hps => by
    simp only [exec, Option.some.injEq, Prod.mk.injEq] at h
    obtain ⟨rfl, rfl, rfl, rfl, rfl⟩ := h
    exact fun Wr β S a w Q hs hq => wp_skip (hq β S a w hs (Gone.refl hs.base))
  | .label l, sl, hp, ts, e, sl', hp', ts', ps, h, hps => by
    simp only [exec, Option.some.injEq, Prod.mk.injEq] at h
    obtain ⟨rfl, rfl, rfl, rfl, rfl⟩ := h
    exact fun Wr β S a w Q hs hq => wp_label (hq β S a w hs (Gone.refl hs.base))
  | .exit id, sl, hp, ts, e, sl', hp', ts', ps, h, hps => by
    simp only [exec, Option.some.injEq, Prod.mk.injEq] at h
    obtain ⟨rfl, rfl, rfl, rfl, rfl⟩ := h
    exact fun Wr β S a w Q hs hq => wp_exit (hq β S a w hs (Gone.refl hs.base))
  | .ret, sl, hp, ts, e, sl', hp', ts', ps, h, hps => by
    simp only [exec, Option.some.injEq, Prod.mk.injEq] at h
    obtain ⟨rfl, rfl, rfl, rfl, rfl⟩ := h
    exact fun Wr β S a w Q hs hq => wp_ret (hq β S a w hs (Gone.refl hs.base))
  | .region id ops draw, sl, hp, ts, e, sl', hp', ts', ps, h, hps => by
    simp only [exec] at h
    split at h
    · split at h
      · rename_i sl1 hp1 ts1 ps1 T hr
        split at h
        · rename_i hd
          simp only [Option.some.injEq, Prod.mk.injEq] at h
          obtain ⟨rfl, rfl, rfl, rfl, rfl⟩ := h
          exact fun Wr β S a w Q hs hq => draw_sound hmx hs hr hd hps hq
        · cases h
      · cases h
    · split at h
      · rename_i sl1 hp1 ts1 ps1 hr
        simp only [Option.some.injEq, Prod.mk.injEq] at h
        obtain ⟨rfl, rfl, rfl, rfl, rfl⟩ := h
        exact fun Wr β S a w Q hs hq => wp_region_list (region_sound ops.toList [] sl hp ts _ _ _ _ β S a w hs hr hps hq)
      · cases h
  | .seq x y, sl, hp, ts, e, sl', hp', ts', ps, h, hps => by
    simp only [exec] at h
    split at h
    · rename_i sl1 hp1 ts1 ps1 hx
      obtain ⟨ps', h1, rfl⟩ := moreE_some h
      have k1 := exec_sound hmx x sl hp ts _ _ _ _ _ hx (fun p hp => hps p (List.mem_append_left _ hp))
      have k2 := exec_sound hmx y sl1 hp1 ts1 _ _ _ _ _ h1 (fun p hp => hps p (List.mem_append_right _ hp))
      exact fun Wr β S a w Q hs hq => wp_seq (k1 Wr β S a w _ hs fun β' S' a' w' hs' hg => k2 Wr β' S' a' w' Q hs' fun β'' S'' a'' w'' hs'' hg' => hq β'' S'' a'' w'' hs'' (hg.trans hg'))
    · rename_i hne
      have k1 := exec_sound hmx x sl hp ts _ _ _ _ _ h hps
      have hn : e ≠ .normal := fun e' => by subst e'; exact hne _ _ _ _ h
      refine fun Wr β S a w Q hs hq => wp_seq (k1 Wr β S a w _ hs fun β' S' a' w' hs' hg => ?_)
      have := hq β' S' a' w' hs' hg
      cases e with
      | normal => exact absurd rfl hn
      | ret => exact this
      | exit id => exact this
  | .cond c x y, sl, hp, ts, e, sl', hp', ts', ps, h, hps => by
    simp only [exec] at h
    split at h
    · rename_i v t ts1 hc
      obtain ⟨ps', h1, rfl⟩ := moreE_some h
      have hvt : v = t := hps _ (.head _)
      subst hvt
      have key : Sim P m (if v then x else y) sl hp e sl' hp' := by
        cases v with
        | true => exact exec_sound hmx x sl hp ts1 _ _ _ _ _ h1 (fun p hp => hps p (.tail _ hp))
        | false => exact exec_sound hmx y sl hp ts1 _ _ _ _ _ h1 (fun p hp => hps p (.tail _ hp))
      refine fun Wr β S a w Q hs hq => wp_cond (t := v) ?_ ?_
      · have := evl_rel hs.slots c
        rw [hc] at this
        exact rel_bool this
      · exact key Wr β S a w Q hs hq
    · cases h
  | .block id b, sl, hp, ts, e, sl', hp', ts', ps, h, hps => by
    simp only [exec] at h
    split at h
    · rename_i j sl1 hp1 ts1 ps1 hb
      split at h
      · rename_i hj
        simp only [Option.some.injEq, Prod.mk.injEq] at h
        obtain ⟨rfl, rfl, rfl, rfl, rfl⟩ := h
        have k1 := exec_sound hmx b sl hp ts _ _ _ _ _ hb hps
        refine fun Wr β S a w Q hs hq => wp_block (k1 Wr β S a w _ hs fun β' S' a' w' hs' hg => ?_)
        have := hq β' S' a' w' hs' hg
        simp only [beq_iff_eq] at hj
        subst hj
        simpa [Exit.inBlock, Ex.to] using this
      · rename_i hj
        simp only [Option.some.injEq, Prod.mk.injEq] at h
        obtain ⟨rfl, rfl, rfl, rfl, rfl⟩ := h
        have k1 := exec_sound hmx b sl hp ts _ _ _ _ _ hb hps
        refine fun Wr β S a w Q hs hq => wp_block (k1 Wr β S a w _ hs fun β' S' a' w' hs' hg => ?_)
        have := hq β' S' a' w' hs' hg
        simp only [beq_eq_false_iff_ne] at hj
        simpa [Exit.inBlock, Ex.to, hj] using this
    · rename_i hne
      have k1 := exec_sound hmx b sl hp ts _ _ _ _ _ h hps
      refine fun Wr β S a w Q hs hq => wp_block (k1 Wr β S a w _ hs fun β' S' a' w' hs' hg => ?_)
      have := hq β' S' a' w' hs' hg
      cases e with
      | normal => exact this
      | ret => exact this
      | exit j => exact absurd h (hne _ _ _ _ _)
  | .loop b, sl, hp, ts, e, sl', hp', ts', ps, h, hps => by
    simp only [exec] at h
    split at h
    · rename_i nils live order e0 sl2 hp2 ts1
      split at h
      · rename_i hc
        simp only [Option.some.injEq, Prod.mk.injEq] at h
        obtain ⟨rfl, rfl, rfl, rfl, rfl⟩ := h
        obtain ⟨hn, ho⟩ := hc
        have hl : SimL P m b _ _ _ _ _ := hps _ (.head _)
        have hw1 := Weak.nils (m := m) nils sl hp
        have hw3 := Weak.rst (m := m) (sl := (nilS nils sl hp).1) (hp := (nilS nils sl hp).2)
        have hw2 := Weak.gc (m := m) (sl := rstS m (nilS nils sl hp).2 (nilS nils sl hp).1) (hp := rstH m (nilS nils sl hp).2) (live := live) hn (fun id hid => by have := List.all_eq_true.1 ho id hid; simpa using this)
        have hall := SimL.weakL ((hw1.trans hw3).trans hw2) hl
        exact fun Wr β S a w Q hs hq => wp_of_loopWp (hall Wr β S a w Q hs hq)
      · cases h
    · cases h
  | .rangeFunc _ _ _ _, sl, hp, ts, e, sl', hp', ts', ps, h, hps => by simp only [exec] at h; cases h
  | .scope _, sl, hp, ts, e, sl', hp', ts', ps, h, hps => by simp only [exec] at h; cases h
  | .goto _, sl, hp, ts, e, sl', hp', ts', ps, h, hps => by simp only [exec] at h; cases h
  | .refuse _, sl, hp, ts, e, sl', hp', ts', ps, h, hps => by simp only [exec] at h; cases h

/-- A result, by its variable. -/
def resultV (P : Program) (sl : List D) (hp : List Ob) : ResultVar → Option V
  | .tmp t => match sl[t]? with
    | some (.v x) => some x
    | _ => none
  | .cell a t => match sl[a]?, tinfo P t with
    | some (.v (.one (.ptr id ver off))), some (agg, n) => match hp[id]? with
      | some (.cells _ ver' cs _) => if ver = ver' ∧ ((cs.drop off).take n).length = n then wrapV agg ((cs.drop off).take n) else none
      | _ => none
    | _, _ => none

def resultVs (P : Program) (sl : List D) (hp : List Ob) : List ResultVar → Option (List V)
  | [] => some []
  | r :: rs => match resultV P sl hp r, resultVs P sl hp rs with
    | some x, some xs => some (x :: xs)
    | _, _ => none

def asD : List V → D
  | [x] => .v x
  | xs => .tup xs

/-- A nil list among results gets an array of its own, without room ('szs': the elements' sizes; 0: it stays). -/
def nilL : List Nat → List C → List Ob → List Nat × List C × List Ob
  | szs, [], hp => (szs, [], hp)
  | szs, c :: cs, hp => match c, szs with
    | .sc (.slice none 0 0), sz :: szs => match sz with
      | 0 => match nilL szs cs hp with | (szs, cs, hp) => (szs, c :: cs, hp)
      | sz + 1 => match nilL szs cs (hp ++ [.cells (sz + 1) 1 [] false]) with | (szs, cs, hp') => (szs, .ar hp.length 1 0 0 :: cs, hp')
    | c, szs => match nilL szs cs hp with | (szs, cs, hp) => (szs, c :: cs, hp)

def nilVs : List Nat → List V → List Ob → List V × List Ob
  | _, [], hp => ([], hp)
  | szs, .one c :: xs, hp => match nilL szs [c] hp with
    | (szs, [c], hp) => match nilVs szs xs hp with | (xs, hp) => (.one c :: xs, hp)
    | (szs, _, hp) => match nilVs szs xs hp with | (xs, hp) => (.one c :: xs, hp)
  | szs, .agg cs :: xs, hp => match nilL szs cs hp with
    | (szs, cs, hp) => match nilVs szs xs hp with | (xs, hp) => (.agg cs :: xs, hp)

/-- What a run of a function's body comes to. -/
def finish (P : Program) (m : Nat) (fn : Func) (szs order : List Nat) : OutE → Option (D × List Ob × List Tell × List Prop)
  | some (e, sl, hp, ts, ps) => match e with
    | .exit _ => none
    | _ => match resultVs P sl hp fn.results.toList with
      | some xs => match nilVs szs xs hp with
        | (xs, hp) => if order.Nodup ∧ order.all (fun id => decide (m ≤ id)) = true then some (renD m order (rstD m hp (asD xs)), gcH m order (rstH m hp), ts, ps) else none
      | none => none
  | none => none

def run (P : Program) (fn : Func) (c : Code) (H : List Ob) (args : List D) (szs order : List Nat) (ts : List Tell) : Option (D × List Ob × List Tell × List Prop) :=
  finish P H.length fn szs order (exec P H.length c (args ++ List.replicate (fn.ntmps - args.length) .dead) H ts)

section
variable {P : Program} {Wr : Nat → Prop} {m : Nat} {sl : List D} {hp : List Ob} {β : Nat → Option (Nat × Nat)} {S : Nat → Nat → Prop} {a : Act} {w : World}

theorem resultV_sound (h : HRel β hp S w Wr) (hs : RelDs β hp S w sl a.tmps.toList) {r : ResultVar} {x : V} (hr : resultV P sl hp r = some x) :
    ∃ u, (match r with | .tmp t => pure (a.tmps.getD t undef) | .cell p t => do loadVar t (← asAddr (a.tmps.getD p undef)) : Sem Value).run P w = .ok u w ∧ RelV β hp S w x u := by
  have hget : ∀ t, a.tmps.getD t undef = (a.tmps.toList[t]?).getD undef := fun t => by simp [Array.getD_eq_getD_getElem?]
  cases r with
  | tmp t =>
    simp only [resultV] at hr
    split at hr
    · rename_i y hy
      simp only [Option.some.injEq] at hr
      subst hr
      have := hs.get t
      rw [hy] at this
      exact ⟨_, rfl, by rw [hget]; exact this⟩
    · cases hr
  | cell p t =>
    simp only [resultV] at hr
    split at hr
    · rename_i id ver off agg n hp1 ht
      split at hr
      · rename_i sz ver' cs fz hid
        split at hr
        · rename_i hc
          obtain ⟨rfl, hlen⟩ := hc
          have hg := hs.get p
          rw [hp1] at hg
          have hp0 : RelC β hp S w (.ptr id ver off) ((a.tmps.toList[p]?).getD undef) := hg
          simp only [RelC] at hp0
          obtain ⟨_, hlt, hs2⟩ := hp0
          obtain ⟨_, hs2⟩ := hs2 sz ver cs fz hid
          obtain ⟨b, oo, hb, hu⟩ := hs2 rfl
          obtain ⟨hsz, h'⟩ := h.cells id sz ver cs fz hid
          rcases h' with h' | ⟨b', o', arr, e, k1, k2, k3, k4, k5, k6⟩
          · rw [h'.1] at hb; cases hb
          rw [hb] at k1
          simp only [Option.some.injEq, Prod.mk.injEq] at k1
          obtain ⟨rfl, rfl⟩ := k1
          have hl : Lies β hp S w cs b oo := k5
          obtain ⟨u, h1, h2⟩ := run_loadVar_lies ht ((hl.drop off).take n) hlen hr
          refine ⟨u, ?_, h2⟩
          simp only [hget, hu]
          simp [asAddr, h1]
        · cases hr
      · cases hr
    · cases hr

theorem resultVs_sound (h : HRel β hp S w Wr) (hs : RelDs β hp S w sl a.tmps.toList) : ∀ (rs : List ResultVar) (xs : List V), resultVs P sl hp rs = some xs →
    ∃ us, (rs.mapM fun | ResultVar.tmp t => pure (a.tmps.getD t undef) | .cell p t => do loadVar t (← asAddr (a.tmps.getD p undef)) : Sem (List Value)).run P w = .ok us w ∧ RelVs β hp S w xs us
  | [], xs, hr => by
    simp only [resultVs, Option.some.injEq] at hr
    subst hr
    exact ⟨[], rfl, rfl⟩
  | r :: rs, xs, hr => by
    simp only [resultVs] at hr
    split at hr
    · rename_i x xs1 h1 h2
      simp only [Option.some.injEq] at hr
      subst hr
      obtain ⟨u, g1, g2⟩ := resultV_sound (P := P) h hs h1
      obtain ⟨us, g3, g4⟩ := resultVs_sound h hs rs xs1 h2
      refine ⟨u :: us, ?_, u, us, rfl, g2, g4⟩
      rw [List.mapM_cons, Sem.run_bind]
      refine (congrArg (fun r => Result.andThen r _) g1).trans ?_
      simp only [Result.andThen_ok]
      rw [Sem.run_bind]
      refine (congrArg (fun r => Result.andThen r _) g3).trans ?_
      rfl
    · cases hr

theorem run_results (h : HRel β hp S w Wr) (hs : RelDs β hp S w sl a.tmps.toList) {fn : Func} {xs : List V} (hr : resultVs P sl hp fn.results.toList = some xs) :
    ∃ us, (results fn a.tmps).run P w = .ok (if us.length = 1 then us.headD undef else .tuple us.toArray) w ∧ RelVs β hp S w xs us := by
  obtain ⟨us, g1, g2⟩ := resultVs_sound (P := P) h hs _ _ hr
  refine ⟨us, ?_, g2⟩
  unfold results
  rw [Array.mapM_eq_mapM_toList]
  simp only [Sem.run_bind, Sem.run_map]
  refine (congrArg (fun r => Result.andThen (Result.andThen r _) _) g1).trans ?_
  simp only [Result.andThen_ok, Sem.run_pure]
  congr 1
  match us with
  | [] => simp
  | [u] => simp
  | u :: v :: us => simp

theorem RelVs.length : ∀ {xs : List V} {us : List Value}, RelVs β hp S w xs us → us.length = xs.length
  | [], _, h => by simp only [RelVs] at h; simp [h]
  | x :: xs, _, ⟨u, us', h1, _, h3⟩ => by rw [h1]; simp [RelVs.length h3]

theorem asD_rel {xs : List V} {us : List Value} (h : RelVs β hp S w xs us) : RelD β hp S w (asD xs) (if us.length = 1 then us.headD undef else .tuple us.toArray) := by
  match xs, h with
  | [], h => simp only [RelVs] at h; subst h; exact ⟨#[], rfl, rfl⟩
  | [x], ⟨u, us', e1, e2, e3⟩ =>
    simp only [RelVs] at e3
    subst e3; subst e1
    exact e2
  | x :: y :: xs, h =>
    have hl := h.length
    simp only [List.length_cons] at hl
    rw [if_neg (by omega)]
    exact ⟨us.toArray, rfl, by simpa using h⟩

theorem nilL_sound (h : HRel β hp S w Wr) : ∀ (szs : List Nat) (cs : List C) (us : List Value), RelL β hp S w cs us → ∃ β', RelL β' (nilL szs cs hp).2.2 S w (nilL szs cs hp).2.1 us ∧ HRel β' (nilL szs cs hp).2.2 S w Wr ∧ Ext β hp S β' (nilL szs cs hp).2.2 S := by
  intro szs cs
  induction cs generalizing szs hp β with
  | nil => intro us hr; exact ⟨β, hr, h, Ext.refl _ _ _⟩
  | cons c cs ih =>
    intro us hr
    simp only [RelL] at hr
    obtain ⟨u, us', rfl, e2, e3⟩ := hr
    have hplain : ∀ szs', ∃ β', RelL β' (nilL szs' cs hp).2.2 S w (c :: (nilL szs' cs hp).2.1) (u :: us') ∧ HRel β' (nilL szs' cs hp).2.2 S w Wr ∧ Ext β hp S β' (nilL szs' cs hp).2.2 S := by
      intro szs'
      obtain ⟨β', g1, g2, g3⟩ := ih h szs' us' e3
      exact ⟨β', by simp only [RelL]; exact ⟨u, us', rfl, RelC.step g3 (Evo.refl Wr S w) c u e2, g1⟩, g2, g3⟩
    unfold nilL
    split
    · rename_i sz szs'
      cases sz with
      | zero => exact hplain szs'
      | succ sz' =>
        have hx := ext_push β hp S (.cells (sz' + 1) 1 [] false) none
        have h1 := h.allocNil (sz' + 1) 1 false (by omega)
        obtain ⟨β', g1, g2, g3⟩ := ih h1 szs' us' (RelL.step hx (Evo.refl Wr S w) cs us' e3)
        refine ⟨β', ?_, g2, hx.trans g3⟩
        simp only [RelL]
        simp only [RelC, RelP] at e2
        obtain ⟨rfl, _⟩ := e2
        exact ⟨_, us', rfl, RelC.step g3 (Evo.refl Wr S w) _ _ (relAr_nil none), g1⟩
    · exact hplain szs

theorem nilVs_sound (h : HRel β hp S w Wr) : ∀ (szs : List Nat) (xs : List V) (us : List Value), RelVs β hp S w xs us → ∃ β', RelVs β' (nilVs szs xs hp).2 S w (nilVs szs xs hp).1 us ∧ HRel β' (nilVs szs xs hp).2 S w Wr ∧ Ext β hp S β' (nilVs szs xs hp).2 S := by
  intro szs xs
  induction xs generalizing szs hp β with
  | nil => intro us hr; exact ⟨β, hr, h, Ext.refl _ _ _⟩
  | cons x xs ih =>
    intro us hr
    obtain ⟨u, us', rfl, e2, e3⟩ := hr
    cases x with
    | one c =>
      have hl : RelL β hp S w [c] [u] := by simp only [RelL]; exact ⟨u, [], rfl, e2, rfl⟩
      obtain ⟨β1, g1, g2, g3⟩ := nilL_sound h szs [c] [u] hl
      unfold nilVs
      generalize hn : nilL szs [c] hp = r at g1 g2 g3
      obtain ⟨szs', cs', hp'⟩ := r
      simp only at g1 g2 g3
      obtain ⟨β2, k1, k2, k3⟩ := ih g2 szs' us' (RelVs.step g3 (Evo.refl Wr S w) xs us' e3)
      match cs', g1 with
      | [c'], g1 =>
        refine ⟨β2, ⟨u, us', rfl, ?_, k1⟩, k2, g3.trans k3⟩
        simp only [RelL] at g1
        obtain ⟨u2, us2, e4, e5, e6⟩ := g1
        injection e4 with e4 _
        subst e4
        exact RelC.step k3 (Evo.refl Wr S w) _ _ e5
      | [], g1 => exact ⟨β2, ⟨u, us', rfl, RelC.step (g3.trans k3) (Evo.refl Wr S w) _ _ e2, k1⟩, k2, g3.trans k3⟩
      | _ :: _ :: _, g1 => exact ⟨β2, ⟨u, us', rfl, RelC.step (g3.trans k3) (Evo.refl Wr S w) _ _ e2, k1⟩, k2, g3.trans k3⟩
    | agg cs =>
      obtain ⟨vs, rfl, hl⟩ := e2
      obtain ⟨β1, g1, g2, g3⟩ := nilL_sound h szs cs vs.toList hl
      unfold nilVs
      generalize hn : nilL szs cs hp = r at g1 g2 g3
      obtain ⟨szs', cs', hp'⟩ := r
      simp only at g1 g2 g3 ⊢
      obtain ⟨β2, k1, k2, k3⟩ := ih g2 szs' us' (RelVs.step g3 (Evo.refl Wr S w) xs us' e3)
      exact ⟨β2, ⟨_, us', rfl, ⟨vs, rfl, RelL.step k3 (Evo.refl Wr S w) _ _ g1⟩, k1⟩, k2, g3.trans k3⟩

end

/-- What is reckoned is what the function does. -/
theorem FnC.of_run {P : Program} (hmx : P.follows .mixedOrders = true) {f : FuncId} {fn : Func} {c : Code} {H H' : List Ob} {args : List D} {res : D} {szs order : List Nat} {ts : List Tell} {ps : List Prop}
    (hcall : ∀ (vals : Array Value) (w : World), (callFunc f vals).run P w = .ok (.enter f vals) w) (hf : P.funcs[f]? = some fn) (hb : fn.body = some c)
    (h : run P fn c H args szs order ts = some (res, H', [], ps)) (hps : ∀ p ∈ ps, p) : FnC P f H args res H' := by
  refine ⟨hcall, fun β S w vals Wr hH hfr hargs => ?_⟩
  unfold run finish at h
  split at h
  · rename_i e sl hp ts1 ps1 hex
    have hres : ∃ xs, resultVs P sl hp fn.results.toList = some xs ∧ (order.Nodup ∧ order.all (fun id => decide (H.length ≤ id)) = true) ∧ res = renD H.length order (rstD H.length (nilVs szs xs hp).2 (asD (nilVs szs xs hp).1)) ∧ H' = gcH H.length order (rstH H.length (nilVs szs xs hp).2) ∧ ps = ps1 ∧ (e = .ret ∨ e = .normal) := by
      split at h
      · cases h
      · rename_i hne
        split at h
        · rename_i xs hxs
          generalize hnv : nilVs szs xs hp = r at h
          obtain ⟨xs2, hp2⟩ := r
          simp only at h
          split at h
          · rename_i ho
            simp only [Option.some.injEq, Prod.mk.injEq] at h
            obtain ⟨rfl, rfl, _, rfl⟩ := h
            refine ⟨xs, hxs, ho, by rw [hnv], by rw [hnv], rfl, ?_⟩
            cases e with
            | normal => exact .inr rfl
            | ret => exact .inl rfl
            | exit id => exact absurd rfl (hne id)
          · cases h
        · cases h
    obtain ⟨xs, hxs, ⟨hn, ho⟩, rfl, rfl, rfl, he⟩ := hres
    have hsim := exec_sound hmx c _ H ts _ _ _ _ _ hex hps
    have hlen : vals.size = args.length := by have := hargs.length; simpa using this
    have hdead : ∀ n, RelDs β H S w (List.replicate n .dead) (List.replicate n undef) := by
      intro n
      induction n with
      | zero => rfl
      | succ n ih => exact ⟨undef, _, rfl, trivial, ih⟩
    have happ : ∀ {ds es : List D} {us vs : List Value}, RelDs β H S w ds us → RelDs β H S w es vs → RelDs β H S w (ds ++ es) (us ++ vs) := by
      intro ds
      induction ds with
      | nil => intro es us vs e1 e2; simp only [RelDs] at e1; subst e1; simpa using e2
      | cons d ds ih =>
        intro es us vs e1 e2
        obtain ⟨u, us', rfl, e3, e4⟩ := e1
        exact ⟨u, us' ++ vs, rfl, e3, ih e4 e2⟩
    have hs0 : SR Wr H.length (args ++ List.replicate (fn.ntmps - args.length) .dead) H β S { tmps := vals ++ Array.replicate (fn.ntmps - vals.size) undef, defers := [] } w :=
      ⟨by simpa [hlen] using happ hargs (hdead (fn.ntmps - args.length)), hH, hfr, Nat.le_refl _, rfl⟩
    refine calls_of_wp hf hb (hsim Wr β S _ w _ hs0 fun β' S' a' w' hs' hg => ?_)
    obtain ⟨us, r1, r2⟩ := run_results (P := P) hs'.heap hs'.slots hxs
    obtain ⟨β2, r3, r4, r5⟩ := nilVs_sound hs'.heap szs xs us r2
    have hm2 : H.length ≤ (nilVs szs xs hp).2.length := Nat.le_trans hs'.base r5.len
    have r6 := rstD_sound (m := H.length) _ _ (asD_rel r3)
    have hm3 : H.length ≤ (rstH H.length (nilVs szs xs hp).2).length := by unfold rstH; rw [rstG_length]; exact hm2
    have r7 := renD_sound (m := H.length) (order := order) hm3 _ _ r6
    have r8 := (r4.rst (m := H.length)).gc (m := H.length) hm3 hn (fun id hid => by have := List.all_eq_true.1 ho id hid; simpa using this)
    have hpost : ∃ v, (results fn a'.tmps).run P w' = .ok v w' ∧ (∃ v_1 β' S', Ending.returned v = .returned v_1 ∧ RelD β' (gcH H.length order (rstH H.length (nilVs szs xs hp).2)) S' w' (renD H.length order (rstD H.length (nilVs szs xs hp).2 (asD (nilVs szs xs hp).1))) v_1 ∧ HRel β' (gcH H.length order (rstH H.length (nilVs szs xs hp).2)) S' w' Wr ∧ Gone Wr H.length H β S w (gcH H.length order (rstH H.length (nilVs szs xs hp).2)) β' S' w') :=
      ⟨_, r1, _, _, S', rfl, r7, r8, (hg.trans ⟨r5.toB hs'.base, Evo.refl _ _ _, fun _ _ hh => .inl hh⟩).trans ((gone_rst hm2).trans (gone_gc hm3))⟩
    rcases he with rfl | rfl
    · exact ⟨hs'.defers, hpost⟩
    · exact ⟨hs'.defers, hpost⟩
  · cases h

end Go.Vm
