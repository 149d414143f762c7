/- The small machine runs code: what is reckoned is what Go's machine does. It states nothing of any program. -/
import Derived.Test.YtjeeofakogoboaaVmN
namespace Go.Vm
set_option linter.unusedVariables false
set_option linter.unusedSimpArgs false

/-- 'Fn', and that a call of the function enters it. -/
def FnC (P : Program) (f : FuncId) (H : List Ob) (args : List D) (res : D) (H' : List Ob) : Prop :=
  (∀ (vals : Array Value) (w : World), (callFunc f vals).run P w = .ok (.enter f vals) w) ∧ Fn P f H args res H'

/-- What is told ahead of a call, a loop, a test. -/
inductive Tell where
  | br (b : Bool)
  | op (o : Or)
  | call (pick lend : List Nat) (frz : Bool) (eq : Option (List D × List Ob)) (res : D) (hp : List Ob)
  | loop (nils : List (Nat × Nat)) (live order : List Nat) (e : Nat) (sl : List D) (hp : List Ob)
  | plan (hide wr : List Nat) (base grow : Nat) (full : Bool)

abbrev Out2 := Option (D × List Ob × List Tell × List Prop)

/-- The tells of one operation: those of 'opx'. -/
def ors : List Tell → List Or
  | .br b :: l => .br b :: ors l
  | .op o :: l => o :: ors l
  | _ => []

/-- What a call owes: the function's contract (for arguments that are said anew, too: that they are these). -/
def owedCall (P : Program) (f : FuncId) (args : List D) (H0 : List Ob) (eq : Option (List D × List Ob)) (res : D) (hp' : List Ob) (frz : Bool) : List Prop :=
  match eq with
  | none => FnC P f H0 args res hp' :: cond frz [] [NoSD res ∧ ∀ ob ∈ hp', NoSOb ob]
  | some (args', H0') => (args = args') :: (H0 = H0') :: FnC P f H0' args' res hp' :: cond frz [] [NoSD res ∧ ∀ ob ∈ hp', NoSOb ob]

theorem owedCall_spec {P : Program} {f : FuncId} {args : List D} {H0 : List Ob} {eq : Option (List D × List Ob)} {res : D} {hp' : List Ob} {frz : Bool} (h : ∀ p ∈ owedCall P f args H0 eq res hp' frz, p) :
    FnC P f H0 args res hp' ∧ (frz = true ∨ (NoSD res ∧ ∀ ob ∈ hp', NoSOb ob)) := by
  unfold owedCall at h
  cases eq with
  | none =>
    refine ⟨h _ (.head _), ?_⟩
    cases frz with
    | true => exact .inl rfl
    | false => exact .inr (h _ (.tail _ (.head _)))
  | some x =>
    obtain ⟨args', H0'⟩ := x
    have e1 : args = args' := h _ (.head _)
    have e2 : H0 = H0' := h _ (.tail _ (.head _))
    subst e1; subst e2
    refine ⟨h _ (.tail _ (.tail _ (.head _))), ?_⟩
    cases frz with
    | true => exact .inl rfl
    | false => exact .inr (h _ (.tail _ (.tail _ (.tail _ (.head _)))))

def stepx (P : Program) (o : Oper) (ρ : Operand → D) (hp : List Ob) (ts : List Tell) : Out2 :=
  match o.op with
  | .call c => match c.callee with
    | .value fop => match ρ fop, ts with
      | .v (.one (.fn f caps)), .call pick lend frz eq res hp' :: ts =>
        match expDs pick lend hp (c.args.toList.map ρ ++ caps.map one), expObs pick lend hp pick with
        | some args, some H0 => if pick.Nodup then
            some (impD pick hp.length res, back pick lend frz hp hp', ts, owedCall P f args H0 eq res hp' frz) else none
        | _, _ => none
      | _, _ => none
    | _ => match opx P o ρ hp (ors ts) with
      | some (d, hp, os, ps) => some (d, hp, ts.drop ((ors ts).length - os.length), ps)
      | none => none
  | _ => match opx P o ρ hp (ors ts) with
    | some (d, hp, os, ps) => some (d, hp, ts.drop ((ors ts).length - os.length), ps)
    | none => none

def putD (sl : List D) (dst : Option Tmp) (d : D) : List D := match dst with | some t => sl.set t d | none => sl

abbrev OutR := Option (List D × List Ob × List Tell × List Prop)

def more (ps : List Prop) : OutR → OutR
  | some (sl, hp, ts, ps') => some (sl, hp, ts, ps ++ ps')
  | none => none

/-- Operations one behind the other; 'kn': the slots whose truth was told. -/
def region (P : Program) (ops : Array Oper) : List Oper → List Nat → List D → List Ob → List Tell → OutR
  | [], _, sl, hp, ts => some (sl, hp, ts, [])
  | o :: rest, kn, sl, hp, ts => match o.guard with
    | none => match stepx P o (evl sl) hp ts with
      | some (d, hp, ts, ps) => more ps (region P ops rest kn (putD sl o.dst d) hp ts)
      | none => none
    | some (j, want) => match (ops[j]?).bind (·.dst) with
      | some g => match sl[g]? with
        | some (.v (.one (.sc (.bool v)))) =>
          match kn.contains g, ts with
          | true, ts => match v == want with
            | true => match stepx P o (evl sl) hp ts with
              | some (d, hp, ts, ps) => more ps (region P ops rest kn (putD sl o.dst d) hp ts)
              | none => none
            | false => region P ops rest kn (putD sl o.dst .dead) hp ts
          | false, .br t :: ts => match t == want with
            | true => match stepx P o (evl (sl.set g (vBool t))) hp ts with
              | some (d, hp, ts, ps) => more ((v = t) :: ps) (region P ops rest (g :: kn) (putD (sl.set g (vBool t)) o.dst d) hp ts)
              | none => none
            | false => more [v = t] (region P ops rest (g :: kn) (putD (sl.set g (vBool t)) o.dst .dead) hp ts)
          | _, _ => none
        | _ => none
      | none => none

section
variable {P : Program} {Wr : Nat → Prop} {m : Nat} {sl : List D} {hp : List Ob} {β : Nat → Option (Nat × Nat)} {S : Nat → Nat → Prop} {a : Act} {w : World}

theorem evl_rel (h : RelDs β hp S w sl a.tmps.toList) (x : Operand) : RelD β hp S w (evl sl x) (a.eval x) := by
  cases x with
  | tmp t =>
    have := h.get t
    simp only [evl, Act.eval]
    have e : a.tmps.getD t undef = (a.tmps.toList[t]?).getD undef := by simp [Array.getD_eq_getD_getElem?]
    rw [e]
    exact this
  | const v => exact RelD.lit v
  | global g => trivial
  | func f =>
    show RelC _ _ _ _ _ _
    simp only [RelC, RelL]
    exact ⟨#[], rfl, rfl⟩

theorem put_rel {d : D} {v : Value} (h : RelDs β hp S w sl a.tmps.toList) (hd : RelD β hp S w d v) (dst : Option Tmp) : RelDs β hp S w (putD sl dst d) (a.put dst v).tmps.toList := by
  cases dst with
  | none => exact h
  | some t =>
    simp only [putD, Act.put]
    have := RelDs.set hd h t
    simpa using this

theorem put_defers (dst : Option Tmp) (v : Value) : (a.put dst v).defers = a.defers := by cases dst <;> rfl

/-- An operation, a call of a function among them. -/
theorem stepx_sound {o : Oper} {ts ts' : List Tell} {d : D} {hp' : List Ob} {ps : List Prop} {Q : Exit → Act → World → Prop} {K : Act → World → Prop} (hs : SR Wr m sl hp β S a w) (h : stepx P o (evl sl) hp ts = some (d, hp', ts', ps)) (hps : ∀ p ∈ ps, p)
    (hK : ∀ β' S' a' w', SR Wr m (putD sl o.dst d) hp' β' S' a' w' → Gone Wr m hp β S w hp' β' S' w' → K a' w') : o.wp P a w K Q := by
  have hρ := evl_rel hs.slots
  have hop : ∀ (os' : List Or) (ps0 : List Prop), opx P o (evl sl) hp (ors ts) = some (d, hp', os', ps0) → (∀ p ∈ ps0, p) → o.wp P a w K Q := by
    intro os' ps0 h1 h2
    obtain ⟨nx, v, w', β', r1, r2, r3, r4, r5, r6⟩ := opx_sound (ρv := a.eval) hs.heap hs.fresh hρ h1 h2
    have hk : K (a.put o.dst v) w' := by
      refine hK β' S (a.put o.dst v) w' ⟨put_rel (RelDs.step r5 r6 _ _ hs.slots) r3 o.dst, r4, fun b hb => hs.fresh b (Nat.le_trans r6.size hb), Nat.le_trans hs.base r5.len, by rw [put_defers]; exact hs.defers⟩
        ⟨r5.toB hs.base, r6, fun b k hh => .inl hh⟩
    unfold Oper.wp
    rw [r1]
    rcases r2 with rfl | ⟨rfl, rfl⟩
    · exact hk
    · exact hk
  unfold stepx at h
  split at h
  · rename_i c hoc
    split at h
    · rename_i fop hcal
      split at h
      · rename_i f caps pick lend frz eq res hp1 ts1 hfop
        split at h
        · rename_i args H0 hargs hH
          split at h
          · rename_i hnd
            simp only [Option.some.injEq, Prod.mk.injEq] at h
            obtain ⟨rfl, rfl, rfl, rfl⟩ := h
            obtain ⟨⟨hcall, hfn⟩, hns⟩ := owedCall_spec hps
            have hf : RelC β hp S w (.fn f caps) (a.eval fop) := rel_one (hρ fop) hfop
            simp only [RelC] at hf
            obtain ⟨us, hu, hcaps⟩ := hf
            have hall : RelDs β hp S w (c.args.toList.map (evl sl) ++ caps.map one) ((c.args.map a.eval).toList ++ us.toList) := by
              have h1 : ∀ l : List Operand, RelDs β hp S w (l.map (evl sl)) (l.map a.eval) := by
                intro l
                induction l with
                | nil => rfl
                | cons x l ih => exact ⟨_, _, rfl, hρ x, ih⟩
              have h2 : ∀ {cs : List C} {vs : List Value}, RelL β hp S w cs vs → RelDs β hp S w (cs.map one) vs := by
                intro cs
                induction cs with
                | nil => intro vs hh; simp only [RelL] at hh; exact hh
                | cons c cs ih =>
                  intro vs hh
                  simp only [RelL] at hh
                  obtain ⟨u, us', rfl, e2, e3⟩ := hh
                  exact ⟨u, us', rfl, e2, ih e3⟩
              have h3 : ∀ {ds es : List D} {us vs : List Value}, RelDs β hp S w ds us → RelDs β hp S w es vs → RelDs β hp S w (ds ++ es) (us ++ vs) := by
                intro ds
                induction ds with
                | nil => intro es us vs e1 e2; simp only [RelDs] at e1; subst e1; simpa using e2
                | cons d ds ih =>
                  intro es us vs e1 e2
                  obtain ⟨u, us', rfl, e3, e4⟩ := e1
                  exact ⟨u, us' ++ vs, rfl, e3, ih e4 e2⟩
              simpa using h3 (h1 c.args.toList) (h2 hcaps)
            have hvals := expDs_sound hs.heap hH _ _ _ hall hargs
            have hready := call_ready hs.heap hnd hH (lend := lend)
            have hfr : ∀ b, w.heap.size ≤ b → WC Wr β hp w pick b := fun b hb => ⟨hs.fresh b hb, .inl hb⟩
            have hc := hfn _ _ w (c.args.map a.eval ++ us) (WC Wr β hp w pick) hready hfr (by simpa using hvals)
            have hexec : (execOp a.eval o).run P w = .ok (.enter f (c.args.map a.eval ++ us)) w := by
              simp [execOp, hoc, resolve, hcal, hu, Deferred.ofValue, invoke, hcall]
            unfold Oper.wp
            rw [hexec]
            rw [Oper.upon_enter]
            refine hc.mono ?_
            rintro e w' ⟨v, β', S', rfl, hres, hH', hgone⟩
            simp only
            obtain ⟨g1, g2, g3, g4⟩ := call_back hs.heap hs.fresh hnd hH hH' hgone (by rcases hns with hns | hns; exact .inl hns; exact .inr hns.2)
            obtain ⟨hl, hgt⟩ := expObs_get hH
            have hlt : ∀ id ∈ pick, id < hp.length := fun id hid => by
              obtain ⟨j, hj, rfl⟩ := List.mem_iff_getElem.1 hid
              obtain ⟨ob, _, q1, _⟩ := hgt j pick[j] (List.getElem?_eq_getElem hj)
              exact (List.getElem?_eq_some_iff.1 q1).1
            have hm : pick.length ≤ hp1.length := by rw [← hl]; exact hgone.ext.len
            have hr := impD_sound (β := β) (S := S) (lend := lend) (frz := frz) (W := WC Wr β hp w pick) hnd hlt hm res v hres (by rcases hns with hns | hns; exact .inl hns; exact .inr hns.1)
            exact hK _ _ _ _ ⟨put_rel (RelDs.step g2 g3 _ _ hs.slots) hr o.dst, g1, fun b hb => hs.fresh b (Nat.le_trans g3.size hb), Nat.le_trans hs.base g2.len, by rw [put_defers]; exact hs.defers⟩ ⟨g2.toB hs.base, g3, g4⟩
          · cases h
        · cases h
      · cases h
    · split at h
      · rename_i d1 hp1 os1 ps1 hopx
        simp only [Option.some.injEq, Prod.mk.injEq] at h
        obtain ⟨rfl, rfl, rfl, rfl⟩ := h
        exact hop _ _ hopx hps
      · cases h
  · split at h
    · rename_i d1 hp1 os1 ps1 hopx
      simp only [Option.some.injEq, Prod.mk.injEq] at h
      obtain ⟨rfl, rfl, rfl, rfl⟩ := h
      exact hop _ _ hopx hps
    · cases h

theorem more_some {ps : List Prop} {r : OutR} {sl' : List D} {hp' : List Ob} {ts' : List Tell} {qs : List Prop} (h : more ps r = some (sl', hp', ts', qs)) : ∃ ps', r = some (sl', hp', ts', ps') ∧ qs = ps ++ ps' := by
  unfold more at h
  split at h
  · simp only [Option.some.injEq, Prod.mk.injEq] at h
    obtain ⟨rfl, rfl, rfl, rfl⟩ := h
    exact ⟨_, rfl, rfl⟩
  · cases h

theorem sr_set_bool {g : Nat} {v : Bool} (hs : SR Wr m sl hp β S a w) (hg : sl[g]? = some (.v (.one (.sc (.bool v))))) : SR Wr m (sl.set g (vBool v)) hp β S a w := by
  have : sl.set g (vBool v) = sl := by
    apply List.ext_getElem?
    intro i
    rw [List.getElem?_set]
    split
    · rename_i e
      subst e
      split
      · rw [hg]; rfl
      · rename_i hlt
        rw [List.getElem?_eq_none (by omega)] at hg
        cases hg
    · rfl
  rw [this]
  exact hs

theorem region_sound {ops : Array Oper} {Q : Exit → Act → World → Prop} : ∀ (l : List Oper) (kn : List Nat) (sl : List D) (hp : List Ob) (ts : List Tell) (sl' : List D) (hp' : List Ob) (ts' : List Tell) (ps : List Prop) (β : Nat → Option (Nat × Nat)) (S : Nat → Nat → Prop) (a : Act) (w : World),
    SR Wr m sl hp β S a w → region P ops l kn sl hp ts = some (sl', hp', ts', ps) → (∀ p ∈ ps, p) →
    (∀ β' S' a' w', SR Wr m sl' hp' β' S' a' w' → Gone Wr m hp β S w hp' β' S' w' → Q .normal a' w') → wpList P ops Q l a w
  | [], kn, sl, hp, ts, sl', hp', ts', ps, β, S, a, w, hs, h, hps, hQ => by
    simp only [region, Option.some.injEq, Prod.mk.injEq] at h
    obtain ⟨rfl, rfl, rfl, rfl⟩ := h
    exact hQ β S a w hs (Gone.refl hs.base)
  | o :: rest, kn, sl, hp, ts, sl', hp', ts', ps, β, S, a, w, hs, h, hps, hQ => by
    have hskip : ∀ sl1, SR Wr m sl1 hp β S a w → ∀ kn1 ts1 ps1, region P ops rest kn1 (putD sl1 o.dst .dead) hp ts1 = some (sl', hp', ts', ps1) → (∀ p ∈ ps1, p) → wpList P ops Q rest (a.put o.dst undef) w := by
      intro sl1 hs1 kn1 ts1 ps1 h1 h2
      refine region_sound rest kn1 _ hp ts1 sl' hp' ts' ps1 β S _ w ⟨put_rel hs1.slots (show RelD β hp S w .dead undef from trivial) o.dst, hs1.heap, hs1.fresh, hs1.base, by rw [put_defers]; exact hs1.defers⟩ h1 h2 hQ
    have hdo : ∀ sl1, SR Wr m sl1 hp β S a w → ∀ kn1 ts1 d hp1 ts2 ps1 ps2, stepx P o (evl sl1) hp ts1 = some (d, hp1, ts2, ps1) → region P ops rest kn1 (putD sl1 o.dst d) hp1 ts2 = some (sl', hp', ts', ps2) → (∀ p ∈ ps1, p) → (∀ p ∈ ps2, p) →
        o.wp P a w (wpList P ops Q rest) Q := by
      intro sl1 hs1 kn1 ts1 d hp1 ts2 ps1 ps2 h1 h2 h3 h4
      refine stepx_sound hs1 h1 h3 fun β1 S1 a1 w1 hs2 hg => ?_
      exact region_sound rest kn1 _ hp1 ts2 sl' hp' ts' ps2 β1 S1 a1 w1 hs2 h2 h4 fun β' S' a' w' hs3 hg' => hQ β' S' a' w' hs3 (hg.trans hg')
    unfold wpList
    unfold region at h
    split at h
    · rename_i hgd
      rw [if_pos (by simp [Region.wanted, hgd])]
      split at h
      · rename_i d hp1 ts1 ps1 hst
        obtain ⟨ps', h1, rfl⟩ := more_some h
        exact .inl (hdo sl hs kn _ d hp1 ts1 ps1 ps' hst h1 (fun p hp => hps p (List.mem_append_left _ hp)) (fun p hp => hps p (List.mem_append_right _ hp)))
      · cases h
    · rename_i j want hgd
      split at h
      · rename_i g hg
        split at h
        · rename_i v hslg
          have hy : yielded ops a.tmps j = some v := by
            have hr := hs.slots.get g
            rw [hslg] at hr
            simp only [Option.getD_some] at hr
            have hb := rel_bool hr
            have hlen : a.tmps.toList.length = sl.length := RelDs.length hs.slots
            have hgl : g < a.tmps.size := by
              have := (List.getElem?_eq_some_iff.1 hslg).1
              have hl2 : a.tmps.size = sl.length := by rw [← Array.length_toList]; exact hlen
              rw [hl2]; exact this
            unfold yielded
            rw [hg]
            simp only [Option.bind_some]
            rw [Array.getElem?_eq_getElem hgl]
            simp only [Array.getElem?_toList, Array.getElem?_eq_getElem hgl, Option.getD_some] at hb
            rw [hb]
          have hwant : Region.wanted o (yielded ops a.tmps) = (v == want) := by
            simp [Region.wanted, hgd, hy]
          rw [hwant]
          split at h
          · split at h
            · rename_i hvw
              rw [if_pos hvw]
              split at h
              · rename_i d hp1 ts1 ps1 hst
                obtain ⟨ps', h1, rfl⟩ := more_some h
                exact .inl (hdo sl hs kn _ d hp1 ts1 ps1 ps' hst h1 (fun p hp => hps p (List.mem_append_left _ hp)) (fun p hp => hps p (List.mem_append_right _ hp)))
              · cases h
            · rename_i hvw
              rw [if_neg (by simp [hvw])]
              exact hskip sl hs kn _ ps h hps
          · rename_i t ts1 hkn
            split at h
            · rename_i htw
              split at h
              · rename_i d hp1 ts2 ps1 hst
                obtain ⟨ps', h1, rfl⟩ := more_some h
                have hvt : v = t := hps _ (.head _)
                subst hvt
                rw [if_pos htw]
                exact .inl (hdo _ (sr_set_bool hs hslg) _ _ d hp1 ts2 ps1 ps' hst h1 (fun p hp => hps p (.tail _ (List.mem_append_left _ hp))) (fun p hp => hps p (.tail _ (List.mem_append_right _ hp))))
              · cases h
            · rename_i htw
              obtain ⟨ps', h1, rfl⟩ := more_some h
              have hvt : v = t := hps _ (.head _)
              subst hvt
              rw [if_neg (by simp [htw])]
              exact hskip _ (sr_set_bool hs hslg) _ _ ps' h1 (fun p hp => hps p (.tail _ hp))
          · cases h
        · cases h
      · cases h

end
end Go.Vm
