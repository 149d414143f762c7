/- A machine of plain data, part 5: what Go's code does, told by functions that Lean reckons out. It states nothing of any program. -/
import Derived.Test.YtjeeofakogoboaaTp4
import Derived.Carry
import Derived.OpenShut
import Derived.ChangeArms
namespace Go.Tm
open Go.Vm Go.RowKit
set_option linter.unusedVariables false
set_option linter.unusedSimpArgs false

/-- What lay there when the call began. -/
def Sb (w : World) (b o : Nat) : Prop := b < w.heap.size

/-- Plain data as Go's types allow it. -/
def wfD : (t : Ty) → t.den → Prop
  | .int k, z => (Lit.int k z).wf = true
  | .bool, _ => True
  | .str, s => ByteArray.size s ≤ Go.maxLen
  | .nat, _ => True
  | .unit, _ => True
  | .prod a b, v => wfD a v.1 ∧ wfD b v.2
  | .arr n t, f => ∀ i, i < n → wfD t (f i)
  | .fl t, L => List.length L ≤ Go.maxLen ∧ ∀ x ∈ L, wfD t x
  | .row t, v => wfD t v

/-- Do a struct's fields lie one behind the other. -/
def layFs (P : Program) (f : TypeId → Bool) (g : TypeId → Option Ty) : Nat → List Field → Option Nat
  | n, [] => some n
  | n, x :: l => match g x.type with
    | some ty => if (Nat.beq x.offset n && (Nat.beq ty.size (P.cellsOf x.type) && f x.type)) = true then layFs P f g (n + P.cellsOf x.type) l else none
    | none => none

def layOk (P : Program) : Nat → TypeId → Bool
  | 0, _ => false
  | d + 1, t => match P.underlying t with
    | some (.int _) => true
    | some .bool => true
    | some .string => true
    | some (.slice e) => layOk P d e && (Nat.blt 0 (P.cellsOf e) && (match tyOf P d e with | some ty => Nat.beq ty.size (P.cellsOf e) | none => false))
    | some (.array n e) => layOk P d e && ((match tyOf P d e with | some ty => Nat.beq ty.size (P.cellsOf e) | none => false) && Nat.beq (P.cellsOf t) (n * P.cellsOf e))
    | some (.struct fs) => match layFs P (layOk P d) (tyOf P d) 0 fs.toList with
      | some n => Nat.beq n (P.cellsOf t)
      | none => false
    | _ => false

/-- What a type's data reads as. -/
def Opens (P : Program) (t : TypeId) (ty : Ty) : Prop :=
  ∀ (H : Type) (enc' : TypeId × Value → H) (w : World) (n : Nat) (cs : List Value) (x : DataW H × List MemPlace), DataW.trod enc' P w 0 (fun _ => true) true n t cs = some x → ∃ v : ty.den, wfD ty v ∧ RelPL (Sb w) w (enc ty v) cs

theorem relPL_length {S : Nat → Nat → Prop} {w : World} : ∀ {cs : List C} {us : List Value}, RelPL S w cs us → us.length = cs.length
  | [], us, h => by simp only [RelPL] at h; simp [h]
  | c :: cs, us, h => by
    simp only [RelPL] at h
    obtain ⟨u, us', rfl, _, h2⟩ := h
    simp [relPL_length h2]

theorem relPL_append {S : Nat → Nat → Prop} {w : World} : ∀ {cs ds : List C} {us vs : List Value}, RelPL S w cs us → RelPL S w ds vs → RelPL S w (cs ++ ds) (us ++ vs)
  | [], ds, us, vs, h, k => by simp only [RelPL] at h; subst h; exact k
  | c :: cs, ds, us, vs, h, k => by
    simp only [RelPL] at h
    obtain ⟨u, us', rfl, h1, h2⟩ := h
    show RelPL S w (c :: (cs ++ ds)) (u :: (us' ++ vs))
    simp only [RelPL]
    exact ⟨u, us' ++ vs, rfl, h1, relPL_append h2 k⟩

theorem relAt_append {S : Nat → Nat → Prop} {w : World} : ∀ {cs ds : List C} {b o : Nat}, RelAt S w cs b o → RelAt S w ds b (o + cs.length) → RelAt S w (cs ++ ds) b o
  | [], ds, b, o, _, h => by simpa using h
  | c :: cs, ds, b, o, h1, h2 => by
    simp only [RelAt] at h1
    simp only [List.cons_append, RelAt]
    exact ⟨h1.1, h1.2.1, relAt_append h1.2.2 (by simpa [Nat.add_assoc, Nat.add_comm 1] using h2)⟩

theorem relAt_of {w : World} {b : Nat} (hb : b < w.heap.size) : ∀ {cs : List C} {us : List Value} {o : Nat}, RelPL (Sb w) w cs us → (∀ i, i < us.length → w.cell? ⟨b, o + i, none⟩ = us[i]?) → RelAt (Sb w) w cs b o
  | [], us, o, _, _ => by simp only [RelAt]
  | c :: cs, us, o, h, hc => by
    simp only [RelPL] at h
    obtain ⟨u, us', rfl, h1, h2⟩ := h
    simp only [RelAt]
    refine ⟨hb, ⟨u, by simpa using hc 0 (by simp), h1⟩, relAt_of hb h2 fun i hi => ?_⟩
    have := hc (i + 1) (by simpa using hi)
    simpa [Nat.add_assoc, Nat.add_comm 1] using this

theorem add_block (a : Addr) (k : Nat) : (a.add k).block = a.block := by unfold Addr.add; split <;> rfl
theorem add_add {a : Addr} (h : a.spot = none) (k j : Nat) : (a.add k).add j = ⟨a.block, a.off + k + j, none⟩ := by
  cases a
  simp only at h
  subst h
  unfold Addr.add
  split <;> split <;> simp_all

theorem opens_slice {P : Program} {t e : TypeId} {ty : Ty} (ht : P.underlying t = some (.slice e)) (he : Opens P e ty) (hpos : 0 < P.cellsOf e) (hsz : ty.size = P.cellsOf e) : Opens P t (.fl ty) := by
  intro H enc' w n cs x h
  rcases DataW.trod_slice ht h with ⟨rfl, _⟩ | ⟨a, len, cap, elems, rest, n, _, rfl, _, _, hle, hcap, hlen, hel, _⟩
  · refine ⟨([] : List ty.den), ⟨Nat.zero_le _, fun x hx => nomatch hx⟩, ?_⟩
    show RelPL (Sb w) w [.sl 0 []] _
    rw [RelPL]
    refine ⟨_, _, rfl, ?_, by rw [RelPL]⟩
    rw [RelP]
    exact ⟨none, 0, rfl, Nat.le_refl _, fun _ => rfl, .inl ⟨rfl, rfl⟩⟩
  · have hsp : 0 < len → a.spot = none := by
      intro hi
      have h1 := hel 0 hi
      have h2 : elems[0]? = some elems[0] := List.getElem?_eq_getElem (by omega)
      rw [h2] at h1
      obtain ⟨vs, hv, _⟩ := Option.bind_eq_some_iff.1 h1
      obtain ⟨_, hvl, hcell⟩ := World.cells?_some hv
      have h0 := hcell 0 hpos
      have hv0 : vs[0]? = some vs[0] := List.getElem?_eq_getElem (by omega)
      rw [hv0] at h0
      have e0 : (a.add (0 * P.cellsOf e)).add 0 = a := by simp [Addr.add]
      rw [e0] at h0
      unfold World.cell? at h0
      split at h0
      · split at h0
        · cases h0
        · rename_i hns
          cases hq : a.spot with
          | none => rfl
          | some k => rw [hq] at hns; exact absurd rfl hns
      · cases h0
    have hone : ∀ i, i < len → ∃ g : ty.den, wfD ty g ∧ a.spot = none ∧ RelAt (Sb w) w (enc ty g) a.block (a.off + i * P.cellsOf e) := by
      intro i hi
      have h1 := hel i hi
      have h2 : elems[i]? = some elems[i] := List.getElem?_eq_getElem (by omega)
      rw [h2] at h1
      obtain ⟨vs, hv, hr⟩ := Option.bind_eq_some_iff.1 h1
      obtain ⟨g, hA, hg⟩ := he H enc' w n vs _ hr
      obtain ⟨_, hvl, hcell⟩ := World.cells?_some hv
      have hb := World.cells?_block hv hpos
      rw [add_block] at hb
      have hs0 := hsp (by omega)
      refine ⟨g, hA, hs0, relAt_of hb hg fun j hj => ?_⟩
      have := hcell j (by omega)
      rw [← this, add_add hs0]
    have hall : ∀ k, k ≤ len → ∃ L : List ty.den, L.length = k ∧ (∀ g ∈ L, wfD ty g) ∧ (0 < k → a.spot = none) ∧ RelAt (Sb w) w (L.flatMap (enc ty)) a.block (a.off + (len - k) * P.cellsOf e) := by
      intro k
      induction k with
      | zero => intro _; exact ⟨[], rfl, by simp, by simp, by simp [RelAt]⟩
      | succ k ih =>
        intro hk
        obtain ⟨L, e1, e2, e3, e4⟩ := ih (by omega)
        obtain ⟨g, g1, g3, g4⟩ := hone (len - (k + 1)) (by omega)
        refine ⟨g :: L, by simp [e1], fun x hx => ?_, fun _ => g3, ?_⟩
        · cases hx with
          | head => exact g1
          | tail _ hx => exact e2 x hx
        · rw [List.flatMap_cons]
          refine relAt_append g4 ?_
          rw [enc_len, hsz]
          have : a.off + (len - (k + 1)) * P.cellsOf e + P.cellsOf e = a.off + (len - k) * P.cellsOf e := by
            rw [show len - k = (len - (k + 1)) + 1 by omega, Nat.add_mul]; omega
          rw [this]
          exact e4
    obtain ⟨L, e1, e2, e3, e4⟩ := hall len (Nat.le_refl _)
    refine ⟨L, ⟨by rw [e1]; omega, e2⟩, ?_⟩
    show RelPL (Sb w) w [.sl L.length (L.flatMap (enc ty))] _
    simp only [RelPL, RelP]
    refine ⟨_, _, rfl, ⟨some a, cap, by rw [e1], by omega, (fun h => by cases h), ?_⟩, rfl⟩
    by_cases hz : len = 0
    · have : L = [] := List.eq_nil_of_length_eq_zero (by omega)
      subst this
      exact .inl ⟨rfl, rfl⟩
    · refine .inr ⟨a.block, a.off, ?_, by simpa using e4⟩
      have := e3 (by omega)
      cases a
      simp only at this
      subst this
      rfl

theorem opens_fields {P : Program} {d : Nat} (ih : ∀ t ty, tyOf P d t = some ty → layOk P d t = true → Opens P t ty) {H : Type} {enc' : TypeId × Value → H} {w : World} {n : Nat} : ∀ (fs : List Field) (acc m : Nat) (tl : List Ty) (cs : List Value),
    tysOf (tyOf P d) fs = some tl → layFs P (layOk P d) (tyOf P d) acc fs = some m → cs.length = m → (∀ f ∈ fs, ∃ x, DataW.trod enc' P w 0 (fun _ => true) true n f.type ((cs.drop f.offset).take (P.cellsOf f.type)) = some x) →
    ∃ v : (prodOf tl).den, wfD (prodOf tl) v ∧ RelPL (Sb w) w (enc (prodOf tl) v) (cs.drop acc)
  | [], acc, m, tl, cs, ht, hl, hm, hx => by
    simp only [tysOf, Option.some.injEq] at ht
    simp only [layFs, Option.some.injEq] at hl
    subst ht; subst hl
    refine ⟨(() : Unit), trivial, ?_⟩
    show RelPL (Sb w) w [] _
    simp only [RelPL]
    exact List.drop_eq_nil_of_le (by omega)
  | f :: fs, acc, m, tl, cs, ht, hl, hm, hx => by
    unfold tysOf at ht
    split at ht
    · rename_i t ts h1 h2
      injection ht with ht
      subst ht
      unfold layFs at hl
      rw [h1] at hl
      simp only at hl
      split at hl
      · rename_i hc
        obtain ⟨c1, hc⟩ := and2 hc
        obtain ⟨c2, c3⟩ := and2 hc
        have c1 := beq2 c1
        have c2 := beq2 c2
        obtain ⟨x, hxx⟩ := hx f (.head _)
        obtain ⟨v, hv1, hv2⟩ := ih f.type t h1 c3 H enc' w n _ x hxx
        obtain ⟨u, hu1, hu2⟩ := opens_fields ih fs (acc + P.cellsOf f.type) m ts cs h2 hl hm (fun g hg => hx g (.tail _ hg))
        rw [c1] at hv2
        have hsplit : cs.drop acc = (cs.drop acc).take (P.cellsOf f.type) ++ cs.drop (acc + P.cellsOf f.type) := by
          rw [← List.drop_drop]; exact (List.take_append_drop _ _).symm
        rw [hsplit]
        cases ts with
        | nil =>
          refine ⟨v, hv1, ?_⟩
          have hnil : RelPL (Sb w) w [] (cs.drop (acc + P.cellsOf f.type)) := hu2
          simp only [RelPL] at hnil
          rw [hnil, List.append_nil]
          exact hv2
        | cons t2 ts =>
          exact ⟨(v, u), ⟨hv1, hu1⟩, relPL_append hv2 hu2⟩
      · cases hl
    · cases ht

/-- Data of a type reads as plain data. -/
theorem opens_ty {P : Program} : ∀ (d : Nat) (t : TypeId) (ty : Ty), tyOf P d t = some ty → layOk P d t = true → Opens P t ty
  | 0, t, ty, h, _ => by cases h
  | d + 1, t, ty, h, hl => by
    unfold tyOf at h
    unfold layOk at hl
    split at h
    · rename_i k hu
      injection h with h
      subst h
      intro H enc' w n cs x hx
      obtain ⟨z, rfl, _, hw⟩ := DataW.trod_int hu hx
      exact ⟨z, hw, by show RelPL (Sb w) w [.sc (.int k z)] _; simp only [RelPL, RelP]; exact ⟨_, _, rfl, ⟨rfl, rfl⟩, rfl⟩⟩
    · rename_i hu
      injection h with h
      subst h
      intro H enc' w n cs x hx
      obtain ⟨z, rfl, _⟩ := DataW.trod_bool hu hx
      exact ⟨z, trivial, by show RelPL (Sb w) w [.sc (.bool z)] _; simp only [RelPL, RelP]; exact ⟨_, _, rfl, ⟨rfl, rfl⟩, rfl⟩⟩
    · rename_i hu
      injection h with h
      subst h
      intro H enc' w n cs x hx
      obtain ⟨z, rfl, _, hw⟩ := DataW.trod_string hu hx
      exact ⟨z, hw, by show RelPL (Sb w) w [.sc (.string z)] _; simp only [RelPL, RelP]; exact ⟨_, _, rfl, ⟨rfl, rfl⟩, rfl⟩⟩
    · rename_i e hu
      obtain ⟨te, hte, rfl⟩ := Option.map_eq_some_iff.1 h
      rw [hu] at hl
      simp only [hte] at hl
      obtain ⟨l1, hl⟩ := and2 hl
      obtain ⟨l2, l3⟩ := and2 hl
      exact opens_slice hu (opens_ty d e te hte l1) (Nat.le_of_ble_eq_true l2) (beq2 l3)
    · rename_i m e hu
      obtain ⟨te, hte, rfl⟩ := Option.map_eq_some_iff.1 h
      rw [hu] at hl
      simp only [hte] at hl
      obtain ⟨l1, hl⟩ := and2 hl
      obtain ⟨l2, l3⟩ := and2 hl
      have l2 := beq2 l2
      have l3 := beq2 l3
      intro H enc' w n cs x hx
      obtain ⟨xs, n', _, _, hlen, hxl, hget⟩ := DataW.trod_array hu hx
      have hone : ∀ i, i < m → ∃ v : te.den, wfD te v ∧ RelPL (Sb w) w (enc te v) ((cs.drop (i * P.cellsOf e)).take (P.cellsOf e)) := fun i hi => by
        have := hget i hi
        rw [List.getElem?_eq_getElem (by omega)] at this
        exact opens_ty d e te hte l1 H enc' w n' _ _ this
      have hf : ∃ f : Nat → te.den, ∀ i, i < m → wfD te (f i) ∧ RelPL (Sb w) w (enc te (f i)) ((cs.drop (i * P.cellsOf e)).take (P.cellsOf e)) := by
        refine ⟨fun i => if h : i < m then (hone i h).choose else te.dflt, fun i hi => ?_⟩
        simp only [hi, dif_pos]
        exact (hone i hi).choose_spec
      obtain ⟨f, hf⟩ := hf
      refine ⟨f, fun i hi => (hf i hi).1, ?_⟩
      have hk : ∀ k, k ≤ m → RelPL (Sb w) w ((List.range k).flatMap fun i => enc te (f i)) (cs.take (k * P.cellsOf e)) := by
        intro k
        induction k with
        | zero => intro _; simp [RelPL]
        | succ k ihk =>
          intro hk
          rw [List.range_succ, List.flatMap_append]
          have h1 := ihk (by omega)
          have h2 := (hf k (by omega)).2
          have : cs.take ((k + 1) * P.cellsOf e) = cs.take (k * P.cellsOf e) ++ (cs.drop (k * P.cellsOf e)).take (P.cellsOf e) := by
            rw [Nat.succ_mul, List.take_add]
          rw [this]
          exact relPL_append h1 (by simpa using h2)
      have := hk m (Nat.le_refl _)
      rw [List.take_of_length_le (by rw [hlen, l3]; exact Nat.le_refl _)] at this
      exact this
    · rename_i fs hu
      obtain ⟨tl, htl, rfl⟩ := Option.map_eq_some_iff.1 h
      rw [hu] at hl
      simp only at hl
      split at hl
      · rename_i m hm
        have hl := beq2 hl
        intro H enc' w n cs x hx
        obtain ⟨xs, n', _, _, hlen, hxl, hget⟩ := DataW.trod_struct hu hx
        obtain ⟨v, h1, h2⟩ := opens_fields (d := d) (fun t ty h k => opens_ty d t ty h k) (H := H) (enc' := enc') (w := w) (n := n') fs.toList 0 m tl cs htl hm (by rw [hlen, hl]) (fun f hf => by
          obtain ⟨i, hi, rfl⟩ := List.mem_iff_getElem.1 hf
          have hi' : i < fs.size := by simpa using hi
          have := hget i fs[i] (Array.getElem?_eq_getElem hi')
          rw [List.getElem?_eq_getElem (by omega)] at this
          exact ⟨_, by simpa using this⟩)
        rw [List.drop_zero] at h2
        exact ⟨v, h1, h2⟩
      · cases hl
    · cases h

theorem relPL_rel {S : Nat → Nat → Prop} {w : World} {β : Nat → Option (Nat × Nat)} {H : List Ob} : ∀ {cs : List C} {us : List Value}, RelPL S w cs us → RelL β H S w cs us
  | [], us, h => by simp only [RelPL] at h; subst h; simp only [RelL]
  | c :: cs, us, h => by
    simp only [RelPL] at h
    obtain ⟨u, us', rfl, h1, h2⟩ := h
    simp only [RelL]
    exact ⟨u, us', rfl, RelP.rel c u h1, relPL_rel h2⟩

/-- An argument reads as plain data. -/
theorem arg_ty {P : Program} {d : Nat} {t : TypeId} {ty : Ty} (hty : tyOf P (d + 1) t = some ty) (hlay : layOk P (d + 1) t = true) {H : Type} {enc' : TypeId × Value → H} {w : World} {r : Go.Reach} {base : Nat} {v : Value} {dd : DataW H} {p : List MemPlace} (hv : Value.okWide P w r base t v)
    (h : DataW.Trod enc' P w 0 (fun _ => true) true t v dd p) : ∃ x : ty.den, wfD ty x ∧ ∀ (s : St) (loc : Loc), RelD (fun _ => none) [] (Sb w) w (encD s loc (.pure ty x)) v := by
  obtain ⟨n, hn⟩ := h
  obtain ⟨x, hw, hx⟩ := opens_ty _ _ _ hty hlay H enc' w n _ _ hn
  refine ⟨x, hw, fun s loc => ?_⟩
  have hone : (∀ cs, v ≠ .agg cs) → ty.isRow = false → ty.size = 1 → RelD (fun _ => none) [] (Sb w) w (encD s loc (.pure ty x)) v := fun h1 h2 h3 => by
    have hcells : v.cells.toList = [v] := by cases v <;> first | rfl | exact absurd rfl (h1 _)
    rw [hcells] at hx
    have hl := enc_len ty x
    rw [h3] at hl
    rw [encD_v rfl (by show (ty.isRow || Nat.beq ty.size 1) = true; rw [h3, h2]; rfl)]
    show RelV _ _ _ _ (encV s loc (.pure ty x)) v
    unfold encV
    rw [show (T.pure ty x).isRow = false from h2]
    simp only
    show RelC _ _ _ _ ((enc ty x).headD .dead) v
    match he : enc ty x, hl with
    | [c], _ =>
      rw [he] at hx
      simp only [RelPL] at hx
      obtain ⟨u, us, e1, e2, _⟩ := hx
      injection e1 with e1 _
      subst e1
      exact RelP.rel c v e2
  have hagg : (∃ cs, v = .agg cs) → ty.isRow = true → RelD (fun _ => none) [] (Sb w) w (encD s loc (.pure ty x)) v := fun ⟨cs, h1⟩ h2 => by
    subst h1
    rw [encD_v rfl (by show (ty.isRow || _) = true; rw [h2]; rfl)]
    show RelV _ _ _ _ (encV s loc (.pure ty x)) _
    unfold encV
    rw [show (T.pure ty x).isRow = true from h2]
    exact ⟨cs, rfl, relPL_rel hx⟩
  unfold tyOf at hty
  split at hty
  · rename_i k hu
    injection hty with hty
    subst hty
    refine hone (fun cs hcs => ?_) rfl rfl
    subst hcs
    simp only [Value.okWide, hu, Cell.okWide, Cell.ok] at hv
  · rename_i hu
    injection hty with hty
    subst hty
    refine hone (fun cs hcs => ?_) rfl rfl
    subst hcs
    simp only [Value.okWide, hu, Cell.okWide, Cell.ok] at hv
  · rename_i hu
    injection hty with hty
    subst hty
    refine hone (fun cs hcs => ?_) rfl rfl
    subst hcs
    simp only [Value.okWide, hu, Cell.okWide, Cell.ok] at hv
  · rename_i e hu
    obtain ⟨te, _, rfl⟩ := Option.map_eq_some_iff.1 hty
    refine hone (fun cs hcs => ?_) rfl rfl
    subst hcs
    simp only [Value.okWide, hu, Cell.okWide, Cell.ok] at hv
  · rename_i m e hu
    obtain ⟨te, _, rfl⟩ := Option.map_eq_some_iff.1 hty
    refine hagg ?_ rfl
    unfold Value.okWide at hv
    rw [hu] at hv
    obtain ⟨cs, h1, _⟩ := hv
    exact ⟨cs, h1⟩
  · rename_i fs hu
    obtain ⟨tl, _, rfl⟩ := Option.map_eq_some_iff.1 hty
    refine hagg ?_ rfl
    unfold Value.okWide at hv
    rw [hu] at hv
    obtain ⟨cs, h1, _⟩ := hv
    exact ⟨cs, h1⟩
  · cases hty

/-- A law's function: what it returns, and that the caller's world is as it was. -/
theorem calls_law {P : Program} {F : Fun} (hF : FunOk P F) {f : FuncId} (hf : F.e.f = f) (hout : F.e.outs = [.bool]) (haout : F.e.aout = [.pure .bool false]) (hhout : F.e.hout = []) {w : World} {vals : Array Value} (x : HL F.e.ins) (s0 : St) (hst : startSt F.e (HL.leaves F.e.ins x) = some s0) (hnone : F.e.hin = [])
    (hok : (F.fn x).1 = true) (hres : HL.leaves F.e.outs (F.fn x).2 = [⟨.bool, true⟩]) (hsz : vals.size = F.e.ain.length) (hvals : ∀ t, t < F.e.ain.length → RelD (fun _ => none) [] (Sb w) w (encD s0 (fun _ => (0, 0)) (s0.slot t)) (vals.getD t undef)) :
    Calls P f vals w fun e w' => e = .returned (.bool true) ∧ Go.RowKit.Below w.heap.size w w' := by
  subst hf
  have hp : plugTs F.e.aout (HL.leaves F.e.outs (F.fn x).2) = some ([.pure .bool true], []) := by rw [haout, hres]; rfl
  have hq : plugRs F.e.hout [] = some ([], []) := by rw [hhout]; rfl
  obtain ⟨_, hcalls⟩ := hF.runs x s0 _ _ _ hst hok hp hq
  have hheap : Heap s0 (fun _ => (0, 0)) (fun _ => none) [] (Sb w) w (fun b => w.heap.size ≤ b) (fun _ => False) 0 := by
    obtain ⟨ts0, l0, rs0, t1, t2, t3, t4, t5, t6⟩ := startSt_some hst
    have hrs : rs0 = [] := by
      rw [hnone] at t2
      simp only [plugRs, Option.some.injEq, Prod.mk.injEq] at t2
      exact t2.1.symm
    subst hrs
    have hdead : ∀ q, s0.root q = ⟨.ff, .gone⟩ := fun q => by rw [t6]; rfl
    exact ⟨⟨fun id sz ver cs fz h => by simp at h, fun id id' _ _ _ _ _ _ _ _ _ _ _ h => by simp at h, fun _ _ hh => hh, fun id es h => by simp at h, fun id id' _ _ _ _ _ h => by simp at h⟩, (fun r hg => by rw [hdead] at hg; cases hg), (fun r r' h => by rw [hdead] at h; cases h), (fun r h => by rw [hdead] at h; cases h), Nat.le_refl _, fun b hb => hb⟩
  refine (hcalls _ _ _ _ w _ _ 0 vals hheap hsz hvals).mono ?_
  rintro e w' ⟨v, loc', β', H', S', rfl, h1, h2, h3, h4⟩
  refine ⟨?_, h3.evo.os, h3.evo.tape, h3.evo.output, h3.evo.size, fun k hk => h3.evo.block k hk (by omega)⟩
  have : RelD β' H' S' w' (vBool true) v := h2
  rw [rel_bool this]

end Go.Tm

namespace Go.Tm
open Go.Vm

theorem oks_nil {P : Program} : ∀ F ∈ ([] : List Fun), FunOk P F := fun _ h => nomatch h
theorem oks_cons {P : Program} {F : Fun} {K : List Fun} (h : FunOk P F) (hs : ∀ G ∈ K, FunOk P G) : ∀ G ∈ F :: K, FunOk P G := fun G hG => by
  cases hG with
  | head => exact h
  | tail _ hG => exact hs G hG

end Go.Tm

namespace Go.Tm

theorem loopR_rule {σ ρ : Type} {d : ρ} {step : σ → Bool × Bool × σ × ρ} (I : σ → Prop) (μ : σ → Nat) (Q : ρ → Prop)
    (h : ∀ x, I x → (∃ y r, step x = (true, true, y, r) ∧ I y ∧ μ y < μ x) ∨ (∃ y r, step x = (true, false, y, r) ∧ Q r)) : ∀ x, I x → (loopR d step x).1 = true ∧ Q (loopR d step x).2 := by
  have key : ∀ n x, μ x ≤ n → I x → ∃ m r, iterN step m x = some r ∧ Q r := by
    intro n
    induction n with
    | zero =>
      intro x hx hI
      rcases h x hI with ⟨y, r, h1, h2, h3⟩ | ⟨y, r, h1, h2⟩
      · omega
      · exact ⟨1, r, by simp only [iterN, h1], h2⟩
    | succ n ih =>
      intro x hx hI
      rcases h x hI with ⟨y, r, h1, h2, h3⟩ | ⟨y, r, h1, h2⟩
      · obtain ⟨m, r', k1, k2⟩ := ih y (by omega) h2
        exact ⟨m + 1, r', by simp only [iterN, h1]; exact k1, k2⟩
      · exact ⟨1, r, by simp only [iterN, h1], h2⟩
  intro x hI
  obtain ⟨m, r, h1, h2⟩ := key (μ x) x (Nat.le_refl _) hI
  rw [loopR_of (d := d) h1]
  exact ⟨rfl, h2⟩

/-- The same, by the parts of a round. -/
theorem loopR_by {σ ρ : Type} {d : ρ} {step : σ → Bool × Bool × σ × ρ} (I : σ → Prop) (μ : σ → Nat) (Q : ρ → Prop) (x : σ) (hx : I x)
    (h : ∀ x, I x → (step x).1 = true ∧ ((step x).2.1 = true → I (step x).2.2.1 ∧ μ (step x).2.2.1 < μ x) ∧ ((step x).2.1 = false → Q (step x).2.2.2)) : (loopR d step x).1 = true ∧ Q (loopR d step x).2 := by
  refine loopR_rule I μ Q (fun y hy => ?_) x hx
  obtain ⟨h1, h2, h3⟩ := h y hy
  generalize step y = z at h1 h2 h3
  obtain ⟨a, b, c, e⟩ := z
  simp only at h1 h2 h3
  subst h1
  cases b with
  | true => exact .inl ⟨c, e, rfl, h2 rfl⟩
  | false => exact .inr ⟨c, e, rfl, h3 rfl⟩

/-- A loop, by what it comes to from each place on. -/
theorem loopR_eq {σ ρ : Type} {d : ρ} {step : σ → Bool × Bool × σ × ρ} (I : σ → Prop) (μ : σ → Nat) (f : σ → ρ)
    (h : ∀ x, I x → (∃ y r, step x = (true, true, y, r) ∧ I y ∧ μ y < μ x ∧ f y = f x) ∨ (∃ y, step x = (true, false, y, f x))) : ∀ x, I x → loopR d step x = (true, f x) := by
  intro x hI
  obtain ⟨h1, h2⟩ := loopR_rule (d := d) (step := step) (fun y => I y ∧ f y = f x) μ (fun r => r = f x) (fun y ⟨hy, he⟩ => by
    rcases h y hy with ⟨z, r, k1, k2, k3, k4⟩ | ⟨z, k1⟩
    · exact .inl ⟨z, r, k1, ⟨k2, k4.trans he⟩, k3⟩
    · exact .inr ⟨z, f y, k1, he⟩) x ⟨hI, rfl⟩
  generalize loopR d step x = z at h1 h2
  obtain ⟨a, b⟩ := z
  simp only at h1 h2
  rw [h1, h2]

theorem wrap_i64 {x : Int} (h0 : -9223372036854775808 ≤ x) (h1 : x ≤ 9223372036854775807) : IntKind.i64.wrap x = x := by
  unfold IntKind.wrap
  simp [IntKind.bits, IntKind.signed]
  omega

end Go.Tm

namespace Go.Tm
open Go.Vm
set_option linter.unusedVariables false
set_option linter.unusedSimpArgs false

/-- The shape of a copy of a slice: what it is given; a new array. -/
def cloneE (f : FuncId) (t : Ty) (x : T) : Ent := ⟨f, [], [x], [(0, .arr t lNil false)], [.own 0 t.size], []⟩

def cloneF (f : FuncId) (t : Ty) (k : Nat) : Fun := ⟨cloneE f t (.pure (.fl t) lNil), fun (x : HL [.fl t]) => (nFits (lLen x.1) k, (x.1, ()))⟩

theorem clone_ok {P : Program} {f : FuncId} {fn : Func} {c : Code} {t : Ty} {k : Nat} (hK : OpersOk P []) (hcall : ∀ (vals : Array Value) (w : World), (callFunc f vals).run P w = .ok (.enter f vals) w) (hf : P.funcs[f]? = some fn) (hbody : fn.body = some c)
    (hg : evFun P [] [] fn c (cloneE f t (.pure (.fl t) lNil)) = fun (x : HL [.fl t]) => (bAnd (nLt (nLit 0) (lLen x.1)) (nFits (nAdd (lLen (t := t) lNil) (lLen x.1)) k), ((lApp lNil x.1 : (Ty.fl t).den), ())))
    (h1 : evFun P [] [] fn c (cloneE f t (.cst (.slice none 0 0))) = fun (x : HL []) => (bLit true, ((lNil : (Ty.fl t).den), ())))
    (h2 : ∀ a n, evFun P [] [] fn c (cloneE f t (.cst (.slice (some a) 0 n))) = fun (x : HL []) => (bLit true, ((lNil : (Ty.fl t).den), ()))) : FunOk P (cloneF f t k) where
  call := hcall
  runs := fun x s0 res l1 hs hst hok hres hhs => by
    have hfg := fun {F : Fun} (he : F.e.f = f) (hF : ∀ x, (F.fn x).1 = true → F.fn x = evFun P [] [] fn c F.e x) => fun_ok (F := F) hK (by rw [he]; exact hcall) (by rw [he]; exact hf) hbody hF
    change HL [.fl t] at x
    obtain ⟨L, u⟩ := x
    cases L with
    | cons a L =>
      have hfo : FunOk P ⟨cloneE f t (.pure (.fl t) lNil), fun (x : HL [.fl t]) => (bAnd (nLt (nLit 0) (lLen x.1)) (nFits (lLen x.1) k), (x.1, ()))⟩ := hfg rfl (fun x _ => by
        rw [hg]
        show (_, _) = (_, _)
        simp only [nAdd, lLen, lApp, lNil, List.length_nil, Nat.zero_add, List.nil_append])
      exact hfo.runs (a :: L, u) s0 res l1 hs hst (by
        have hok : nFits (lLen (t := t) (a :: L)) k = true := hok
        show bAnd (nLt (nLit 0) (lLen (t := t) (a :: L))) (nFits (lLen (t := t) (a :: L)) k) = true
        rw [hok]
        simp [bAnd, nLt, nLit, lLen]) hres hhs
    | nil =>
      have hst' : s0 = { sl := (List.range 1).zip [T.pure (.fl t) []], hp := [], nx := 0 } := by
        have : startSt (cloneE f t (.pure (.fl t) lNil)) (HL.leaves [.fl t] (([] : List t.den), u)) = some { sl := (List.range 1).zip [T.pure (.fl t) []], hp := [], nx := 0 } := by
          simp only [startSt, cloneE, plugTs, HL.leaves, T.plug, dif_pos, plugRs, kept, castD]
          rfl
        have h3 : startSt (cloneE f t (.pure (.fl t) lNil)) (HL.leaves [.fl t] (([] : List t.den), u)) = some s0 := hst
        rw [this] at h3
        injection h3 with h3
        exact h3.symm
      have key : ∀ v : Value, (∃ a n, v = .slice a 0 n ∧ (a = none → n = 0)) → entOk (cloneE f t (.pure (.fl t) lNil)) = true ∧ ∀ loc β H S w Wr own0 n0 (vals : Array Value), Heap s0 loc β H S w Wr own0 n0 → vals.size = 1 → vals.getD 0 undef = v →
          Calls P f vals w fun e w' => ∃ v loc' β' H' S', e = .returned v ∧ Heap (endSt (cloneE f t (.pure (.fl t) lNil)) s0 hs) loc' β' H' S' w' Wr own0 n0 ∧ RelD β' H' S' w' (encD (endSt (cloneE f t (.pure (.fl t) lNil)) s0 hs) loc' (asRes res)) v ∧ Gone Wr own0 n0 β H S w β' H' S' w' ∧
            Fol s0 loc (endSt (cloneE f t (.pure (.fl t) lNil)) s0 hs) loc' 0 := by
        rintro v ⟨a, n, rfl, hn⟩
        have hev : evFun P [] [] fn c (cloneE f t (.cst (.slice a 0 n))) = fun (x : HL []) => (bLit true, ((lNil : (Ty.fl t).den), ())) := by
          cases a with
          | none => rw [hn rfl]; exact h1
          | some a => exact h2 a n
        have hfo : FunOk P ⟨cloneE f t (.cst (.slice a 0 n)), fun (x : HL []) => (bLit true, ((lNil : (Ty.fl t).den), ()))⟩ := hfg rfl (fun x _ => by rw [hev]; rfl)
        obtain ⟨k1, k2⟩ := hfo.runs () { sl := (List.range 1).zip [T.cst (.slice a 0 n)], hp := [], nx := 0 } res l1 hs (by rfl) rfl hres hhs
        refine ⟨k1, fun loc β H S w Wr own0 n0 vals hheap hsz hv => ?_⟩
        have hroot : ∀ q, (({ sl := (List.range 1).zip [T.cst (.slice a 0 n)], hp := [], nx := 0 } : St).root q) = s0.root q := fun q => by rw [hst']; rfl
        have := k2 loc β H S w Wr own0 n0 vals (Heap.congr (fun q => by rw [hroot]; exact HE.like.rfl _) hheap) hsz (fun i hi => by
          have hi0 : i = 0 := by
            have : i < 1 := hi
            omega
          subst hi0
          rw [hv]
          show RelD β H S w (encD _ loc (.cst (.slice a 0 n))) _
          rw [encD_cst]
          exact RelD.lit _)
        refine this.mono ?_
        rintro e w' ⟨v, loc', β', H', S', he, e1, e2, e3, e4⟩
        refine ⟨v, loc', β', H', S', he, e1, e2, e3, fun r hr => by omega⟩
      refine ⟨(key (.slice none 0 0) ⟨_, _, rfl, fun _ => rfl⟩).1, fun loc β H S w Wr own0 n0 vals hheap hsz hslots => ?_⟩
      have h0 := hslots 0 (show (0 : Nat) < 1 from Nat.zero_lt_one)
      have hs0 : s0.slot 0 = .pure (.fl t) [] := by rw [hst']; rfl
      rw [hs0] at h0
      have h0 : RelC β H S w (.sl 0 []) (vals.getD 0 undef) := h0
      simp only [RelC, RelP] at h0
      obtain ⟨a, cap, hv, _, hn, _⟩ := h0
      exact (key _ ⟨a, cap, rfl, hn⟩).2 loc β H S w Wr own0 n0 vals hheap hsz hv

end Go.Tm

namespace Go.Tm
set_option linter.unusedVariables false

theorem decT {p : Prop} [Decidable p] (h : p) : decide p = true := decide_eq_true h
theorem decF {p : Prop} [Decidable p] (h : ¬ p) : decide p = false := decide_eq_false h
theorem cond_t (c : Bool) : (cond c c true) = true := by cases c <;> rfl
theorem beqI {a b : Int} (h : ¬ a = b) : (a == b) = false := by simpa using h
theorem bneI {a b : Int} (h : ¬ a = b) : (a != b) = true := by simpa using h

/-- A round that goes on. -/
def RGo {σ ρ : Type} (z : Bool × Bool × σ × ρ) (y : σ) : Prop := z.1 = true ∧ z.2.1 = true ∧ z.2.2.1 = y
/-- A round that ends. -/
def REnd {σ ρ : Type} (z : Bool × Bool × σ × ρ) (r : ρ) : Prop := z.1 = true ∧ z.2.1 = false ∧ z.2.2.2 = r

theorem RGo.go {σ ρ : Type} {d : ρ} {step : σ → Bool × Bool × σ × ρ} {x y : σ} (h : RGo (step x) y) : loopR d step x = loopR d step y := by
  obtain ⟨h1, h2, h3⟩ := h
  exact loopR_go (r := (step x).2.2.2) (Prod.ext h1 (Prod.ext h2 (Prod.ext h3 rfl)))
theorem REnd.end {σ ρ : Type} {d : ρ} {step : σ → Bool × Bool × σ × ρ} {x : σ} {r : ρ} (h : REnd (step x) r) : loopR d step x = (true, r) := by
  obtain ⟨h1, h2, h3⟩ := h
  exact loopR_end (y := (step x).2.2.1) (Prod.ext h1 (Prod.ext h2 (Prod.ext rfl h3)))

/-- A loop with a counter: at each place it goes on, or comes to its end. -/
def runN {X ρ : Type} (F : Nat → X → X ⊕ ρ) (R : X → ρ) : Nat → Nat → X → ρ
  | 0, _, x => R x
  | k + 1, i, x => match F i x with
    | .inl y => runN F R k (i + 1) y
    | .inr r => r

theorem loop_idx {X ρ : Type} {d : ρ} {step : Int × X → Bool × Bool × (Int × X) × ρ} (n : Nat) (I : Nat → X → Prop) (F : Nat → X → X ⊕ ρ) (R : X → ρ)
    (hgo : ∀ i x, i < n → I i x → match F i x with | .inl y => RGo (step ((i : Int), x)) (((i + 1 : Nat) : Int), y) ∧ I (i + 1) y | .inr r => REnd (step ((i : Int), x)) r)
    (hend : ∀ x, I n x → REnd (step ((n : Int), x)) (R x)) : ∀ k i x, i + k = n → I i x → loopR d step ((i : Int), x) = (true, runN F R k i x) := by
  intro k
  induction k with
  | zero =>
    intro i x hi hx
    have : i = n := by omega
    subst this
    exact (hend x hx).end
  | succ k ih =>
    intro i x hi hx
    have h := hgo i x (by omega) hx
    unfold runN
    cases hF : F i x with
    | inl y =>
      rw [hF] at h
      obtain ⟨h1, h2⟩ := h
      rw [h1.go]
      exact ih (i + 1) y (by omega) h2
    | inr r =>
      rw [hF] at h
      exact h.end

/-- The same over the elements of a list. -/
def runL {α X ρ : Type} (f : α → X → X ⊕ ρ) (R : X → ρ) : List α → X → ρ
  | [], x => R x
  | a :: l, x => match f a x with
    | .inl y => runL f R l y
    | .inr r => r

theorem loop_each {α X ρ : Type} {d : ρ} {step : Int × X → Bool × Bool × (Int × X) × ρ} (l : List α) (I : Nat → X → Prop) (f : α → X → X ⊕ ρ) (R : X → ρ)
    (hgo : ∀ (i : Nat) (hi : i < l.length) x, I i x → match f l[i] x with | .inl y => RGo (step ((i : Int), x)) (((i + 1 : Nat) : Int), y) ∧ I (i + 1) y | .inr r => REnd (step ((i : Int), x)) r)
    (hend : ∀ x, I l.length x → REnd (step ((l.length : Int), x)) (R x)) (x : X) (hx : I 0 x) : loopR d step ((0 : Int), x) = (true, runL f R l x) := by
  have key : ∀ k i x, i + k = l.length → I i x → loopR d step ((i : Int), x) = (true, runL f R (l.drop i) x) := by
    intro k
    induction k with
    | zero =>
      intro i x hi hx
      have : i = l.length := by omega
      subst this
      rw [List.drop_length]
      exact (hend x hx).end
    | succ k ih =>
      intro i x hi hx
      have hlt : i < l.length := by omega
      have h := hgo i hlt x hx
      rw [List.drop_eq_getElem_cons hlt]
      unfold runL
      cases hF : f l[i] x with
      | inl y =>
        rw [hF] at h
        obtain ⟨h1, h2⟩ := h
        rw [h1.go]
        exact ih (i + 1) y (by omega) h2
      | inr r =>
        rw [hF] at h
        exact h.end
  have := key l.length 0 x (by omega) hx
  simpa using this

/-- A loop that only asks whether something is true at each place. -/
theorem loop_all {ρ : Type} {d : ρ} {step : Int × Unit → Bool × Bool × (Int × Unit) × ρ} (n : Nat) (P : Nat → Bool) (rb re : ρ)
    (h : ∀ i : Nat, i < n → (step ((i : Int), ())).1 = true ∧ (step ((i : Int), ())).2.1 = P i ∧ (P i = true → (step ((i : Int), ())).2.2.1 = (((i + 1 : Nat) : Int), ())) ∧ (P i = false → (step ((i : Int), ())).2.2.2 = rb))
    (hend : (step ((n : Int), ())).1 = true ∧ (step ((n : Int), ())).2.1 = false ∧ (step ((n : Int), ())).2.2.2 = re) : loopR d step ((0 : Int), ()) = (true, if (List.range n).all P = true then re else rb) := by
  have key : ∀ k i : Nat, i + k = n → loopR d step ((i : Int), ()) = (true, if ((List.range n).drop i).all P = true then re else rb) := by
    intro k
    induction k with
    | zero =>
      intro i hi
      have : i = n := by omega
      subst this
      obtain ⟨h1, h2, h3⟩ := hend
      rw [if_pos (by rw [List.drop_eq_nil_of_le (by simp)]; rfl)]
      generalize hs : step ((i : Int), ()) = z at h1 h2 h3
      obtain ⟨a, b, c, e⟩ := z
      simp only at h1 h2 h3
      subst h1; subst h2; subst h3
      exact loopR_end hs
    | succ k ih =>
      intro i hi
      obtain ⟨h1, h2, h3, h4⟩ := h i (by omega)
      have hd : (List.range n).drop i = i :: (List.range n).drop (i + 1) := by
        rw [List.drop_eq_getElem_cons (by simp; omega)]; simp
      rw [hd, List.all_cons]
      cases hP : P i with
      | true =>
        have h3 := h3 hP
        rw [hP] at h2
        generalize hs : step ((i : Int), ()) = z at h1 h2 h3
        obtain ⟨a, b, c, e⟩ := z
        simp only at h1 h2 h3
        subst h1; subst h2; subst h3
        rw [loopR_go hs, ih (i + 1) (by omega), Bool.true_and]
      | false =>
        have h4 := h4 hP
        rw [hP] at h2
        generalize hs : step ((i : Int), ()) = z at h1 h2 h4
        obtain ⟨a, b, c, e⟩ := z
        simp only at h1 h2 h4
        subst h1; subst h2; subst h4
        rw [Bool.false_and, if_neg (by simp)]
        exact loopR_end hs
  have := key n 0 (by omega)
  simpa using this

/-- A loop that ends at the first place where something is true. -/
theorem loop_find {ρ : Type} {d : ρ} {step : Int × Unit → Bool × Bool × (Int × Unit) × ρ} (n : Nat) (P : Nat → Prop) (rh : Nat → ρ) (re : ρ)
    (h : ∀ i : Nat, i < n → (P i → REnd (step ((i : Int), ())) (rh i)) ∧ (¬ P i → RGo (step ((i : Int), ())) (((i + 1 : Nat) : Int), ())))
    (hend : REnd (step ((n : Int), ())) re) : (∃ i, i < n ∧ P i ∧ (∀ j, j < i → ¬ P j) ∧ loopR d step ((0 : Int), ()) = (true, rh i)) ∨ ((∀ i, i < n → ¬ P i) ∧ loopR d step ((0 : Int), ()) = (true, re)) := by
  have key : ∀ k i : Nat, i + k = n → (∀ j, j < i → ¬ P j) → (∃ i', i' < n ∧ P i' ∧ (∀ j, j < i' → ¬ P j) ∧ loopR d step ((i : Int), ()) = (true, rh i')) ∨ ((∀ i, i < n → ¬ P i) ∧ loopR d step ((i : Int), ()) = (true, re)) := by
    intro k
    induction k with
    | zero =>
      intro i hi hj
      have : i = n := by omega
      subst this
      exact .inr ⟨hj, hend.end⟩
    | succ k ih =>
      intro i hi hj
      by_cases hP : P i
      · exact .inl ⟨i, by omega, hP, hj, ((h i (by omega)).1 hP).end⟩
      · rw [((h i (by omega)).2 hP).go]
        exact ih (i + 1) (by omega) (fun j hjl => by
          rcases Nat.lt_or_ge j i with hlt | hge
          · exact hj j hlt
          · have : j = i := by omega
            rw [this]; exact hP)
  have := key n 0 (by omega) (fun j hj => by omega)
  simpa using this

theorem loopD_eq {σ ρ : List Ty} (tag : Nat) (step : HL σ → BoolD × BoolD × HL σ × HL ρ) (x : HL σ) : loopD tag σ ρ step x = loopR (HL.dflt ρ) step x := rfl

/-- A loop that gathers. -/
theorem loop_acc {α β ρ : Type} {d : ρ} {step : Int × List β × Unit → Bool × Bool × (Int × List β × Unit) × ρ} (l : List α) (g : α → List β) (N : Nat) (R : List β → ρ)
    (hgo : ∀ (i : Nat) (hi : i < l.length) (acc : List β), acc.length + (g l[i]).length ≤ N → RGo (step ((i : Int), acc, ())) (((i + 1 : Nat) : Int), acc ++ g l[i], ()))
    (hend : ∀ acc : List β, acc.length ≤ N → REnd (step ((l.length : Int), acc, ())) (R acc)) (acc : List β) (h : acc.length + (l.flatMap g).length ≤ N) : loopR d step ((0 : Int), acc, ()) = (true, R (acc ++ l.flatMap g)) := by
  have key : ∀ (k i : Nat) (acc : List β), i + k = l.length → acc.length + ((l.drop i).flatMap g).length ≤ N → loopR d step ((i : Int), acc, ()) = (true, R (acc ++ (l.drop i).flatMap g)) := by
    intro k
    induction k with
    | zero =>
      intro i acc hi hN
      have : i = l.length := by omega
      subst this
      rw [List.drop_length] at hN ⊢
      simp only [List.flatMap_nil, List.length_nil, Nat.add_zero, List.append_nil] at hN ⊢
      exact (hend acc hN).end
    | succ k ih =>
      intro i acc hi hN
      have hlt : i < l.length := by omega
      rw [List.drop_eq_getElem_cons hlt, List.flatMap_cons] at hN ⊢
      rw [List.length_append] at hN
      rw [(hgo i hlt acc (by omega)).go, ih (i + 1) (acc ++ g l[i]) (by omega) (by rw [List.length_append]; omega), List.append_assoc]
  have := key l.length 0 acc (by omega) (by simpa using h)
  simpa using this

theorem flatMap_length_le {α β : Type} (g : α → List β) (k : Nat) : ∀ l : List α, (∀ a ∈ l, (g a).length ≤ k) → (l.flatMap g).length ≤ l.length * k
  | [], _ => by simp
  | a :: l, h => by
    rw [List.flatMap_cons, List.length_append, List.length_cons, Nat.add_mul]
    have h1 := h a (.head _)
    have h2 := flatMap_length_le g k l (fun b hb => h b (.tail _ hb))
    omega

theorem flatMap_none {α β : Type} (g : α → List β) : ∀ l : List α, (∀ a ∈ l, g a = []) → l.flatMap g = []
  | [], _ => rfl
  | a :: l, h => by rw [List.flatMap_cons, h a (.head _), flatMap_none g l (fun b hb => h b (.tail _ hb))]; rfl

theorem flatMap_one {α β : Type} (g : α → List β) (l : List α) (i : Nat) (hi : i < l.length) (h : ∀ j (hj : j < l.length), j ≠ i → g l[j] = []) : l.flatMap g = g l[i] := by
  have e : l = l.take i ++ l[i] :: l.drop (i + 1) := by rw [List.getElem_cons_drop, List.take_append_drop]
  conv => lhs; rw [e]
  rw [List.flatMap_append, List.flatMap_cons]
  rw [flatMap_none g (l.take i) (fun a ha => by
    obtain ⟨j, hj, rfl⟩ := List.getElem_of_mem ha
    rw [List.length_take] at hj
    rw [List.getElem_take]
    exact h j (by omega) (by omega)), flatMap_none g (l.drop (i + 1)) (fun a ha => by
    obtain ⟨j, hj, rfl⟩ := List.getElem_of_mem ha
    rw [List.length_drop] at hj
    rw [List.getElem_drop]
    exact h _ (by omega) (by omega))]
  simp

/-- What is left of a list, moved to its front: the loop of a deletion. -/
theorem delete_loop {α ρ : Type} {d : ρ} {step : Int × Int × List α × Unit → Bool × Bool × (Int × Int × List α × Unit) × ρ} (q : α → Bool) (L0 : List α) (i0 : Nat) (hi0 : i0 < L0.length) (hfirst : ∀ j (h : j < i0), q L0[j] = true) (hat : q L0[i0] = false) (R : Int → List α → ρ)
    (hgo : ∀ (j i : Nat) (L : List α) (hj : j < L.length), i < L.length → L.length = L0.length → RGo (step ((j : Int), (i : Int), L, ())) (((j + 1 : Nat) : Int), ((if q L[j] then i + 1 else i : Nat) : Int), (if q L[j] then L.set i L[j] else L), ()))
    (hend : ∀ (i : Nat) (L : List α), L.length = L0.length → i < L.length → REnd (step ((L0.length : Int), (i : Int), L, ())) (R i L)) :
    ∃ (i : Nat) (L : List α), loopR d step (((i0 + 1 : Nat) : Int), (i0 : Int), L0, ()) = (true, R i L) ∧ L.length = L0.length ∧ i < L.length ∧ L.take i = L0.filter q := by
  have key : ∀ k j i : Nat, ∀ L : List α, j + k = L0.length → i < j → L.length = L0.length → L.take i = (L0.take j).filter q → L.drop j = L0.drop j →
      ∃ (i' : Nat) (L' : List α), loopR d step ((j : Int), (i : Int), L, ()) = (true, R i' L') ∧ L'.length = L0.length ∧ i' < L'.length ∧ L'.take i' = L0.filter q := by
    intro k
    induction k with
    | zero =>
      intro j i L hj hij hl ht hd
      have : j = L0.length := by omega
      subst this
      exact ⟨i, L, (hend i L hl (by omega)).end, hl, by omega, by rw [ht, List.take_length]⟩
    | succ k ih =>
      intro j i L hj hij hl ht hd
      have hjl : j < L.length := by omega
      rw [(hgo j i L hjl (by omega) hl).go]
      have he : L[j] = L0[j] := by
        have h1 : (L.drop j)[0]? = (L0.drop j)[0]? := by rw [hd]
        simp only [List.getElem?_drop, Nat.add_zero] at h1
        rw [List.getElem?_eq_getElem hjl, List.getElem?_eq_getElem (by omega)] at h1
        exact Option.some.inj h1
      have hdn : L.drop (j + 1) = L0.drop (j + 1) := by
        have := congrArg (List.drop 1) hd
        simpa [List.drop_drop, Nat.add_comm] using this
      have htk : (L0.take (j + 1)).filter q = (L0.take j).filter q ++ (if q L0[j] then [L0[j]] else []) := by
        rw [List.take_add_one, List.filter_append, List.getElem?_eq_getElem (by omega)]
        simp only [Option.toList]
        cases hq : q L0[j] <;> simp [hq]
      cases hq : q L[j] with
      | true =>
        simp only [if_true]
        refine ih (j + 1) (i + 1) (L.set i L[j]) (by omega) (by omega) (by simpa using hl) ?_ ?_
        · rw [htk, ← he, hq]
          simp only [if_true]
          rw [← ht, List.take_add_one, List.take_set_of_le (Nat.le_refl i), List.getElem?_set_self (by omega)]
          rfl
        · rw [List.drop_set_of_lt (by omega)]; exact hdn
      | false =>
        simp only [Bool.false_eq_true, if_false]
        refine ih (j + 1) i L (by omega) (by omega) hl ?_ hdn
        rw [htk, ← he, hq]
        simp [ht]
  refine key (L0.length - (i0 + 1)) (i0 + 1) i0 L0 (by omega) (by omega) rfl ?_ rfl
  rw [List.take_add_one, List.getElem?_eq_getElem hi0, List.filter_append]
  have h1 : (L0.take i0).filter q = L0.take i0 := by
    rw [List.filter_eq_self]
    intro a ha
    obtain ⟨j, hj, rfl⟩ := List.getElem_of_mem ha
    rw [List.length_take] at hj
    rw [List.getElem_take]
    exact hfirst j (by omega)
  rw [h1]
  simp [hat]

end Go.Tm
