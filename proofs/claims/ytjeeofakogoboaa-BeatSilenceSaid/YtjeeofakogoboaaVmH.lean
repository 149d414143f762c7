/- The small machine's lists grow, are made and are cut as Go's. It states nothing of any program. -/
import Derived.Test.YtjeeofakogoboaaVmG
namespace Go.Vm
set_option linter.unusedVariables false
set_option linter.unusedSimpArgs false

section
variable {P : Program} {Wr : Nat → Prop} {S : Nat → Nat → Prop} {β : Nat → Option (Nat × Nat)} {H : List Ob} {hp hp' : List Ob} {w w' : World} {ρ : Operand → D} {ρv : Operand → Value} {o : Oper} {d : D} {os os' : List Or} {ps : List Prop}

theorem ext_bump (β : Nat → Option (Nat × Nat)) (H : List Ob) (S : Nat → Nat → Prop) {id sz ver : Nat} {cs cs' : List C} {fz fz' : Bool} (p : Option (Nat × Nat)) (hid : H[id]? = some (.cells sz ver cs fz)) :
    Ext β H S (upd β id p) (H.set id (.cells sz (ver + 1) cs' fz')) S where
  len := by simp
  ids := fun i sz1 ver1 cs1 fz1 hi hH => by
    rw [List.getElem?_set] at hH
    split at hH
    · rename_i e
      subst e
      rw [if_pos hi] at hH
      simp only [Option.some.injEq, Ob.cells.injEq] at hH
      obtain ⟨rfl, rfl, rfl, rfl⟩ := hH
      exact ⟨ver, cs, fz, hid, by omega, fun e => absurd e (by omega)⟩
    · rename_i hne
      exact ⟨ver1, cs1, fz1, hH, Nat.le_refl _, fun _ => ⟨Nat.le_refl _, upd_other β p (fun e => hne e.symm)⟩⟩
  sub := fun _ _ h => h

/-- One thing that is kept is another one now, at a block that is no other one's. -/
theorem HRel.put (h : HRel β H S w Wr) (hv : Evo Wr S w w') {id sz ver' : Nat} {cs' : List C} {fz' : Bool} {p : Option (Nat × Nat)} (hlt : id < H.length)
    (hx : Ext β H S (upd β id p) (H.set id (.cells sz ver' cs' fz')) S) (hsz : 0 < sz ∧ (ver' ≠ 0 → ∀ c ∈ cs', plain c = true))
    (hoth : ∀ i szi veri csi fzi bi oi, i ≠ id → H[i]? = some (.cells szi veri csi fzi) → β i = some (bi, oi) → w'.heap[bi]? = w.heap[bi]? ∧ ∀ b o, p = some (b, o) → bi ≠ b)
    (hnew : (p = none ∧ cs' = []) ∨ ∃ b o arr e, p = some (b, o) ∧ w'.heap[b]? = some (.cells arr e (0, 0)) ∧ Wr b ∧ o + cs'.length ≤ arr.size ∧
      (∀ j c, cs'[j]? = some c → ∃ u, w'.cell? ⟨b, o + j, none⟩ = some u ∧ RelC β H S w c u) ∧ (∀ k, S b k → k < o + (if fz' then cs'.length else 0))) :
    HRel (upd β id p) (H.set id (.cells sz ver' cs' fz')) S w' Wr := by
  refine ⟨fun i szi veri csi fzi hi => ?_, fun i i' sz1 ver1 cs1 fz1 sz2 ver2 cs2 fz2 b1 o1 o2 h1 h2 h3 h4 => ?_, fun b1 o1 hs => Nat.lt_of_lt_of_le (h.imm b1 o1 hs) hv.size⟩
  · rw [List.getElem?_set] at hi
    split at hi
    · rename_i e
      subst e
      simp only [hlt, if_true, Option.some.injEq, Ob.cells.injEq] at hi
      obtain ⟨rfl, rfl, rfl, rfl⟩ := hi
      refine ⟨hsz, ?_⟩
      rw [upd_same]
      rcases hnew with hnew | ⟨b, o, arr, e, k1, k2, k3, k4, k5, k6⟩
      · exact .inl hnew
      · refine .inr ⟨b, o, arr, e, k1, k2, k3, k4, fun j c hc => ?_, k6⟩
        obtain ⟨u, m1, m2⟩ := k5 j c hc
        exact ⟨u, m1, RelC.step hx hv c u m2⟩
    · rename_i hne
      obtain ⟨hsz', h'⟩ := h.cells i szi veri csi fzi hi
      refine ⟨hsz', ?_⟩
      rw [upd_other β p (fun e => hne e.symm)]
      rcases h' with h' | ⟨b, o, arr, e, k1, k2, k3, k4, k5, k6⟩
      · exact .inl h'
      · obtain ⟨g1, _⟩ := hoth i _ _ _ _ b o (fun e => hne e.symm) hi k1
        refine .inr ⟨b, o, arr, e, k1, by rw [g1]; exact k2, k3, k4, fun j c hc => ?_, k6⟩
        obtain ⟨u, m1, m2⟩ := k5 j c hc
        exact ⟨u, (cell_of_heap g1 _).trans m1, RelC.step hx hv c u m2⟩
  · rw [List.getElem?_set] at h1 h2
    by_cases e1 : i = id
    · by_cases e2 : i' = id
      · rw [e1, e2]
      · rw [if_neg (fun e => e2 e.symm)] at h2
        rw [e1, upd_same] at h3
        rw [upd_other β p e2] at h4
        exact absurd rfl ((hoth i' _ _ _ _ b1 o2 e2 h2 h4).2 b1 o1 h3)
    · rw [if_neg (fun e => e1 e.symm)] at h1
      rw [upd_other β p e1] at h3
      by_cases e2 : i' = id
      · rw [e2, upd_same] at h4
        exact absurd rfl ((hoth i _ _ _ _ b1 o1 e1 h1 h3).2 b1 o2 h4)
      · rw [if_neg (fun e => e2 e.symm)] at h2
        rw [upd_other β p e2] at h4
        exact h.inj i i' _ _ _ _ _ _ _ _ b1 o1 o2 h1 h2 h3 h4

theorem HRel.block_lt (h : HRel β H S w Wr) {i sz ver : Nat} {cs : List C} {fz : Bool} {b o : Nat} (hi : H[i]? = some (.cells sz ver cs fz)) (hb : β i = some (b, o)) : b < w.heap.size := by
  obtain ⟨_, h'⟩ := h.cells i sz ver cs fz hi
  rcases h' with h' | ⟨b', o', arr, e, k1, k2, _⟩
  · rw [h'.1] at hb; cases hb
  · rw [k1] at hb; injection hb with hb; injection hb with hb _; subst hb
    exact (Array.getElem?_eq_some_iff.1 k2).1

/-- The cells of a slice, as they are read. -/
theorem slOf_sound (h : HRel β hp S w Wr) {sz n : Nat} {c : C} {cs : List C} {u : Value} (hs : slOf hp sz c = some (n, cs)) (hr : RelC β hp S w c u) :
    ∃ a cap, u = .slice a n cap ∧ ((n = 0 ∧ cs = []) ∨ ∃ b o, a = some ⟨b, o, none⟩ ∧ LiesP S w cs b o) := by
  unfold slOf at hs
  split at hs
  · simp only [Option.some.injEq, Prod.mk.injEq] at hs
    obtain ⟨rfl, rfl⟩ := hs
    simp only [RelC, RelP] at hr
    exact ⟨none, 0, hr.1, .inl ⟨rfl, rfl⟩⟩
  · simp only [Option.some.injEq, Prod.mk.injEq] at hs
    obtain ⟨rfl, rfl⟩ := hs
    simp only [RelC, RelP] at hr
    obtain ⟨a, cap, hu, _, h3⟩ := hr
    refine ⟨a, cap, hu, ?_⟩
    rcases h3 with h3 | ⟨b, o, ha, hat⟩
    · exact .inl h3
    · exact .inr ⟨b, o, ha, hat.liesP.1⟩
  · rename_i id ver off n0
    split at hs
    · rename_i sz' ver' cs0 fz hid
      split at hs
      · rename_i hc
        obtain ⟨rfl, rfl, hv0⟩ := hc
        simp only [Option.some.injEq, Prod.mk.injEq] at hs
        obtain ⟨rfl, rfl⟩ := hs
        simp only [RelC, RelP] at hr
        obtain ⟨_, hlt, hs⟩ := hr
        obtain ⟨_, hs⟩ := hs sz ver cs0 fz hid
        obtain ⟨hlen, hs⟩ := hs rfl
        rcases hs with ⟨hn, a, hu⟩ | ⟨b, oo, cap, e', arr, hb, hu, hcap, hbk, _⟩
        · exact ⟨a, 0, by rw [hu, hn], .inl ⟨hn, by rw [hn]; simp⟩⟩
        · obtain ⟨hsz, h'⟩ := h.cells id sz ver cs0 fz hid
          rcases h' with h' | ⟨b', o', arr', e, k1, k2, k3, k4, k5, k6⟩
          · rw [h'.1] at hb; cases hb
          rw [hb] at k1
          simp only [Option.some.injEq, Prod.mk.injEq] at k1
          obtain ⟨rfl, rfl⟩ := k1
          have hl : Lies β hp S w cs0 b oo := k5
          exact ⟨_, cap, hu, .inr ⟨b, oo + off, rfl, ((hl.plain (hsz.2 hv0)).drop off).take _⟩⟩
      · cases hs
    · cases hs
  · cases hs

/-- The same, taken as the builtins take it. -/
theorem run_firstCells {sz n : Nat} {c : C} {cs : List C} {u : Value} (h : HRel β hp S w Wr) (hs : slOf hp sz c = some (n, cs)) (hr : RelC β hp S w c u) (hl : cs.length = n * sz) :
    ∃ us, (∀ c ∈ cs, plain c = true) ∧ (Builtin.lenOf u).run P w = .ok n w ∧ RelL β hp S w cs us ∧ ∀ w1 : World, w1.heap = w.heap → (Builtin.firstCells sz n u).run P w1 = .ok us.toArray w1 := by
  obtain ⟨a, cap, rfl, h3⟩ := slOf_sound h hs hr
  rcases h3 with ⟨rfl, rfl⟩ | ⟨b, o, rfl, hl2⟩
  · refine ⟨[], by simp, rfl, by simp [RelL], fun w1 _ => ?_⟩
    cases a with
    | none => simp [Builtin.firstCells]
    | some a => simp [Builtin.firstCells, loadCells, loadCellsFrom]
  · obtain ⟨us, h1, h2⟩ := (hl2.lies (β := β) (H := hp)).values
    refine ⟨us, hl2.plain, rfl, h1, fun w1 hw => ?_⟩
    exact run_firstCells_some (P := P) w1 sz n ⟨b, o, none⟩ n cap us (by rw [h1.length, hl]) (fun j v hv => by rw [Addr.add_mid, cell_of_heap (w := w) (w' := w1) (by rw [hw])]; exact h2 j v hv)

theorem run_append_room_gen {t ty e : TypeId} {i : TypeInfo} (ht : P.underlying t = some (.slice e)) (hi : P.info? e = some i) (b off sLen sCap m : Nat) (x : Value) (us : List Value)
    (hlen : (Builtin.lenOf x).run P w = .ok m w) (hf : (Builtin.firstCells i.size m x).run P w = .ok us.toArray w) (h1 : ∀ u ∈ us, u.oneCell' = true)
    (hroom : sLen + m ≤ sCap) (hc : ∀ j, j < us.length → (w.cell? ⟨b, off + sLen * i.size + j, none⟩).isSome = true) (hfz : ∀ j, j < us.length → w.frozen? ⟨b, off + sLen * i.size + j, none⟩ = false) :
    (Builtin.append_ #[t, t] ty #[.slice (some ⟨b, off, none⟩) sLen sCap, x]).run P w = .ok (.slice (some ⟨b, off, none⟩) (sLen + m) sCap) (w.setCells b (off + sLen * i.size) us) := by
  have hst := run_storeCells_cells (P := P) b (off + sLen * i.size) us 0 w (by simpa using hc) (by simpa using hfz) h1
  simp only [Nat.add_zero] at hst
  simp [Builtin.append_, run_underlying ht, sizeOf, typeInfo, hi, hlen, hroom, hf, Addr.add_mid, hst]

theorem run_append_same_gen {t ty e : TypeId} {i : TypeInfo} (ht : P.underlying t = some (.slice e)) (hi : P.info? e = some i) (a : Option Addr) (x : Value)
    (hlen : (Builtin.lenOf x).run P w = .ok 0 w) (hf : (Builtin.firstCells i.size 0 x).run P w = .ok #[] w) :
    (Builtin.append_ #[t, t] ty #[.slice a 0 0, x]).run P w = .ok (.slice a 0 0) w := by
  cases a <;> simp [Builtin.append_, run_underlying ht, sizeOf, typeInfo, hi, hlen, hf, storeCells]

theorem run_append_grow_gen {t ty e : TypeId} {i : TypeInfo} {z : Value} (ht : P.underlying t = some (.slice e)) (hi : P.info? e = some i) (hz : i.zero = some z) (a : Option Addr) (sLen sCap m : Nat) (x : Value) (olds us : List Value)
    (hlen : (Builtin.lenOf x).run P w = .ok m w) (hf : (Builtin.firstCells i.size m x).run P w.drew = .ok us.toArray w.drew) (hfo : (Builtin.firstCells i.size sLen (.slice a sLen sCap)).run P w.drew = .ok olds.toArray w.drew)
    (hg : sCap < sLen + m) (h63 : ((sLen + m : Nat) : Int) ≤ 9223372036854775807) (hfit : Builtin.nextslicecap (sLen + m) sCap * i.bytes ≤ 281474976710656) :
    (Builtin.append_ #[t, t] ty #[.slice a sLen sCap, x]).run P w =
      .ok (.slice (some ⟨w.heap.size, 0, none⟩) (sLen + m) (grownCap w (sLen + m) sCap e))
        (w.drew.alloc (.cells ((olds ++ us) ++ (Builtin.zeroCells z.cells (grownCap w (sLen + m) sCap e - (sLen + m))).toList).toArray e)) := by
  have hn : ¬ (sLen + m ≤ sCap) := by omega
  have h63' : ¬ (9223372036854775807 < ((sLen : Int) + (m : Int))) := by omega
  have h48' : ¬ (281474976710656 < Builtin.nextslicecap (sLen + m) sCap * i.bytes) := by omega
  simp [Builtin.append_, run_underlying ht, sizeOf, typeInfo, zeroValue, hi, hz, hlen, hn, h63', h48', Question.forced, hf, hfo, newRow, grownCap]
  congr 2
  apply Array.ext'
  simp [List.append_assoc]

end
end Go.Vm
