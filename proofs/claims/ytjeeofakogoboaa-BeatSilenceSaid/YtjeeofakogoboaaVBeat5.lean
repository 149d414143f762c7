/- The beats: what the laws' function BeatSilence does. -/
import Derived.Test.YtjeeofakogoboaaVmY
import Derived.KernelRfl
import Derived.Test.YtjeeofakogoboaaVBeat4
namespace Go.Proofs.Ytjeeofakogoboaa.V
open Go.Vm
set_option linter.unusedVariables false
set_option linter.unusedSimpArgs false
def uC (n : Nat) : C := .sc (.int .u8 (n : Int))
def slU (G : List Nat) : D := .v (.one (.sl G.length (G.map uC)))
theorem ucells_at (L : List Nat) (i : Nat) (h : i < L.length) : ((L.map uC).drop ((i : Int).toNat * 1)).take 1 = [uC L[i]] := by
  simp only [Int.toNat_natCast, Nat.mul_one]
  rw [List.drop_eq_getElem_cons (by simpa using h)]
  simp
def sst (G : List Nat) (L : List Bool) (i : Nat) : List D := [slU G, .dead, .dead, lsD L, nD i] ++ List.replicate 65 .dead
def sst2 (G : List Nat) (L : List Bool) (i k : Nat) : List D := [slU G, .dead, .dead, lsD L, nD i, nD k] ++ List.replicate 64 .dead
def send (L : List Bool) : List D := [.dead, .dead, .dead, lsD L] ++ List.replicate 66 .dead
theorem sil_in (G : List Nat) (i g : Nat) (hlt : i < G.length) (hg : G[i] = g) (hb : g ≤ 255) (d : Nat) : ∀ (k : Nat) (L : List Bool), k + d = g % 5 → L.length + d ≤ 2000 →
    SimL Try.prog 0 (lp Try.f6 1) (sst2 G L i k) (lsO L) (.exit 2) (sst G (L ++ List.replicate d false) i) (lsO (L ++ List.replicate d false)) := by
  have hc := ucells_at G i hlt
  rw [hg] at hc
  have hw : IntKind.i64.wrap ((g : Int).tmod 5) = ((g % 5 : Nat) : Int) := by
    rw [Int.tmod_eq_emod_of_nonneg (by omega), wrap_eq (by omega) (by omega)]; omega
  induction d with
  | zero =>
    intro k L hk hL
    refine SimL.to (SimL.stop (Checked.mixed Try.checked) (e := 3) (nils := []) (live := [0, 3, 4]) (order := [0]) (ts := [.op (.cells [Go.Proofs.Ytjeeofakogoboaa.V.uC g]), .br false]) (ps := [(0 : Int) ≤ (↑i : Int) ∧ (↑i : Int) < (↑G.length : Int), List.take (1 : Nat) (List.drop ((↑i : Int).toNat * (1 : Nat)) (List.map Go.Proofs.Ytjeeofakogoboaa.V.uC G)) = [C.sc (Go.Value.int Go.IntKind.u8 (↑g : Int))], (5 : Int) ≠ (0 : Int), decide ((↑k : Int) < Go.IntKind.i64.wrap ((↑g : Int).tmod (5 : Int))) = Bool.false]) (sl1 := [D.v (V.one (C.sl G.length (List.map Go.Proofs.Ytjeeofakogoboaa.V.uC G))), D.dead, D.dead, D.v (V.one (C.ar (0 : Nat) (1 : Nat) (0 : Nat) L.length)), D.v (V.one (C.sc (Go.Value.int Go.IntKind.i64 (↑i : Int)))), D.dead, D.dead, D.dead, D.dead, D.dead, D.dead, D.dead, D.dead, D.dead, D.dead, D.dead, D.dead, D.dead, D.dead, D.dead, D.dead, D.dead, D.dead, D.dead, D.dead, D.dead, D.dead, D.dead, D.dead, D.dead, D.dead, D.dead, D.dead, D.dead, D.dead, D.dead, D.dead, D.dead, D.dead, D.dead, D.dead, D.dead, D.dead, D.dead, D.dead, D.dead, D.dead, D.dead, D.dead, D.dead, D.dead, D.dead, D.dead, D.dead, D.dead, D.dead, D.dead, D.dead, D.dead, D.dead, D.dead, D.dead, D.dead, D.dead, D.dead, D.dead, D.dead, D.dead, D.dead, D.dead]) (hp1 := [Ob.cells (1 : Nat) (1 : Nat) (List.map Go.Proofs.Ytjeeofakogoboaa.V.bC L) Bool.false]) (by kernel_rfl) (owed (by (simp [hw]; omega)) (owed (by assumption) (owed (by omega) (owed (by (simp [hw]; omega)) owed0))))) ?_ ?_
    · simp [sst, slU, nD, nC, lsD]
    · simp [lsO]
  | succ d ih =>
    intro k L hk hL
    have i1 : IntKind.i64.wrap ((k : Int) + 1) = ((k + 1 : Nat) : Int) := inc_eq (by omega)
    refine SimL.round (Checked.mixed Try.checked) (nils := []) (live := [0, 3, 4, 5]) (order := [0]) (ts := [.op (.cells [Go.Proofs.Ytjeeofakogoboaa.V.uC g]), .br true]) (ps := [(0 : Int) ≤ (↑i : Int) ∧ (↑i : Int) < (↑G.length : Int), List.take (1 : Nat) (List.drop ((↑i : Int).toNat * (1 : Nat)) (List.map Go.Proofs.Ytjeeofakogoboaa.V.uC G)) = [C.sc (Go.Value.int Go.IntKind.u8 (↑g : Int))], (5 : Int) ≠ (0 : Int), decide ((↑k : Int) < Go.IntKind.i64.wrap ((↑g : Int).tmod (5 : Int))) = Bool.true, (1 : Nat) = (1 : Nat), (0 : Nat) + L.length * (1 : Nat) = (List.map Go.Proofs.Ytjeeofakogoboaa.V.bC L).length, (L.length + (1 : Nat)) * (1 : Nat) ≤ (140737488355328 : Nat)]) (sl1 := [D.v (V.one (C.sl G.length (List.map Go.Proofs.Ytjeeofakogoboaa.V.uC G))), D.dead, D.dead, D.v (V.one (C.ar (0 : Nat) (1 : Nat) (0 : Nat) (L.length + (1 : Nat)))), D.v (V.one (C.sc (Go.Value.int Go.IntKind.i64 (↑i : Int)))), D.v (V.one (C.sc (Go.Value.int Go.IntKind.i64 (Go.IntKind.i64.wrap ((↑k : Int) + (1 : Int)))))), D.dead, D.dead, D.dead, D.dead, D.dead, D.dead, D.dead, D.dead, D.dead, D.dead, D.dead, D.dead, D.dead, D.dead, D.dead, D.dead, D.dead, D.dead, D.dead, D.dead, D.dead, D.dead, D.dead, D.dead, D.dead, D.dead, D.dead, D.dead, D.dead, D.dead, D.dead, D.dead, D.dead, D.dead, D.dead, D.dead, D.dead, D.dead, D.dead, D.dead, D.dead, D.dead, D.dead, D.dead, D.dead, D.dead, D.dead, D.dead, D.dead, D.dead, D.dead, D.dead, D.dead, D.dead, D.dead, D.dead, D.dead, D.dead, D.dead, D.dead, D.dead, D.dead, D.dead, D.dead]) (hp1 := [Ob.cells (1 : Nat) (1 : Nat) (List.map Go.Proofs.Ytjeeofakogoboaa.V.bC L ++ [C.sc (Go.Value.bool Bool.false)]) Bool.false]) (by kernel_rfl) (owed (by (simp [hw]; omega)) (owed (by assumption) (owed (by omega) (owed (by (simp [hw]; omega)) (owed (by rfl) (owed (by (simp; done)) (owed (by (simp [hw]; omega)) owed0))))))) ?_
    refine SimL.to (SimL.from (ih (k + 1) (L ++ [false]) (by omega) (by simp; omega)) (by simp [sst2, nD, nC, one, lsD, slU, i1]) (by simp [lsO, bC])) ?_ ?_
    · simp [List.replicate_succ]
    · simp [List.replicate_succ]
def grp (g : Nat) : List Bool := List.replicate (g % 5) false ++ [true]
theorem sil_out (G : List Nat) (hG : ∀ g ∈ G, g ≤ 255) (d : Nat) : ∀ (i : Nat) (L : List Bool), i + d = min G.length 100 → L.length ≤ 1 + 5 * i →
    SimL Try.prog 0 (lp Try.f6 0) (sst G L i) (lsO L) (.exit 0) (send (L ++ (((G.take 100).drop i).map grp).flatten)) (lsO (L ++ (((G.take 100).drop i).map grp).flatten)) := by
  induction d with
  | zero =>
    intro i L hi hL
    have e : (G.take 100).drop i = [] := List.drop_eq_nil_of_le (by rw [List.length_take]; omega)
    rw [e]
    by_cases h : i < G.length
    · refine SimL.to (SimL.stop (Checked.mixed Try.checked) (e := 1) (nils := []) (live := [3]) (order := [0]) (ts := [.br true, .br true, .br false]) (ps := [decide ((↑i : Int) < (↑G.length : Int)) = Bool.true, Bool.true = Bool.true, decide ((↑i : Int) < (100 : Int)) = Bool.false]) (sl1 := [D.dead, D.dead, D.dead, D.v (V.one (C.ar (0 : Nat) (1 : Nat) (0 : Nat) L.length)), D.dead, D.dead, D.dead, D.dead, D.dead, D.dead, D.dead, D.dead, D.dead, D.dead, D.dead, D.dead, D.dead, D.dead, D.dead, D.dead, D.dead, D.dead, D.dead, D.dead, D.dead, D.dead, D.dead, D.dead, D.dead, D.dead, D.dead, D.dead, D.dead, D.dead, D.dead, D.dead, D.dead, D.dead, D.dead, D.dead, D.dead, D.dead, D.dead, D.dead, D.dead, D.dead, D.dead, D.dead, D.dead, D.dead, D.dead, D.dead, D.dead, D.dead, D.dead, D.dead, D.dead, D.dead, D.dead, D.dead, D.dead, D.dead, D.dead, D.dead, D.dead, D.dead, D.dead, D.dead, D.dead, D.dead]) (hp1 := [Ob.cells (1 : Nat) (1 : Nat) (List.map Go.Proofs.Ytjeeofakogoboaa.V.bC L) Bool.false]) (by kernel_rfl) (owed (by (simp; omega)) (owed (by rfl) (owed (by (simp; omega)) owed0)))) ?_ ?_
      · simp [send, lsD]
      · simp [lsO]
    · refine SimL.to (SimL.stop (Checked.mixed Try.checked) (e := 1) (nils := []) (live := [3]) (order := [0]) (ts := [.br false, .br false, .br false]) (ps := [decide ((↑i : Int) < (↑G.length : Int)) = Bool.false, Bool.false = Bool.false, Bool.false = Bool.false]) (sl1 := [D.dead, D.dead, D.dead, D.v (V.one (C.ar (0 : Nat) (1 : Nat) (0 : Nat) L.length)), D.dead, D.dead, D.dead, D.dead, D.dead, D.dead, D.dead, D.dead, D.dead, D.dead, D.dead, D.dead, D.dead, D.dead, D.dead, D.dead, D.dead, D.dead, D.dead, D.dead, D.dead, D.dead, D.dead, D.dead, D.dead, D.dead, D.dead, D.dead, D.dead, D.dead, D.dead, D.dead, D.dead, D.dead, D.dead, D.dead, D.dead, D.dead, D.dead, D.dead, D.dead, D.dead, D.dead, D.dead, D.dead, D.dead, D.dead, D.dead, D.dead, D.dead, D.dead, D.dead, D.dead, D.dead, D.dead, D.dead, D.dead, D.dead, D.dead, D.dead, D.dead, D.dead, D.dead, D.dead, D.dead, D.dead]) (hp1 := [Ob.cells (1 : Nat) (1 : Nat) (List.map Go.Proofs.Ytjeeofakogoboaa.V.bC L) Bool.false]) (by kernel_rfl) (owed (by (simp; omega)) (owed (by rfl) (owed (by rfl) owed0)))) ?_ ?_
      · simp [send, lsD]
      · simp [lsO]
  | succ d ih =>
    intro i L hi hL
    have hlt : i < G.length := by omega
    have hb := hG G[i] (List.getElem_mem hlt)
    have i1 : IntKind.i64.wrap ((i : Int) + 1) = ((i + 1 : Nat) : Int) := inc_eq (by omega)
    refine SimL.round (Checked.mixed Try.checked) (nils := []) (live := [0, 3, 4]) (order := [0]) (ts := [.br true, .br true, .br true, .loop [] [0, 3, 4, 5] [0] 3 (Go.Proofs.Ytjeeofakogoboaa.V.sst G (L ++ List.replicate (G[i] % (5 : Nat)) Bool.false) i) (Go.Proofs.Ytjeeofakogoboaa.V.lsO (L ++ List.replicate (G[i] % (5 : Nat)) Bool.false))]) (ps := [decide ((↑i : Int) < (↑G.length : Int)) = Bool.true, Bool.true = Bool.true, decide ((↑i : Int) < (100 : Int)) = Bool.true, SimL Go.Proofs.Try.prog (0 : Nat) (lp Go.Proofs.Try.f6 (1 : Nat)) (Go.Proofs.Ytjeeofakogoboaa.V.sst2 G L i (0 : Nat)) (Go.Proofs.Ytjeeofakogoboaa.V.lsO L) (Ex.exit (2 : Nat)) (Go.Proofs.Ytjeeofakogoboaa.V.sst G (L ++ List.replicate (G[i] % (5 : Nat)) Bool.false) i) (Go.Proofs.Ytjeeofakogoboaa.V.lsO (L ++ List.replicate (G[i] % (5 : Nat)) Bool.false)), (1 : Nat) = (1 : Nat), (0 : Nat) + (L ++ List.replicate (G[i] % (5 : Nat)) Bool.false).length * (1 : Nat) = (List.map Go.Proofs.Ytjeeofakogoboaa.V.bC (L ++ List.replicate (G[i] % (5 : Nat)) Bool.false)).length, ((L ++ List.replicate (G[i] % (5 : Nat)) Bool.false).length + (1 : Nat)) * (1 : Nat) ≤ (140737488355328 : Nat)]) (sl1 := [D.v (V.one (C.sl G.length (List.map Go.Proofs.Ytjeeofakogoboaa.V.uC G))), D.dead, D.dead, D.v (V.one (C.ar (0 : Nat) (1 : Nat) (0 : Nat) ((L ++ List.replicate (G[i] % (5 : Nat)) Bool.false).length + (1 : Nat)))), D.v (V.one (C.sc (Go.Value.int Go.IntKind.i64 (Go.IntKind.i64.wrap ((↑i : Int) + (1 : Int)))))), D.dead, D.dead, D.dead, D.dead, D.dead, D.dead, D.dead, D.dead, D.dead, D.dead, D.dead, D.dead, D.dead, D.dead, D.dead, D.dead, D.dead, D.dead, D.dead, D.dead, D.dead, D.dead, D.dead, D.dead, D.dead, D.dead, D.dead, D.dead, D.dead, D.dead, D.dead, D.dead, D.dead, D.dead, D.dead, D.dead, D.dead, D.dead, D.dead, D.dead, D.dead, D.dead, D.dead, D.dead, D.dead, D.dead, D.dead, D.dead, D.dead, D.dead, D.dead, D.dead, D.dead, D.dead, D.dead, D.dead, D.dead, D.dead, D.dead, D.dead, D.dead, D.dead, D.dead, D.dead, D.dead]) (hp1 := [Ob.cells (1 : Nat) (1 : Nat) (List.map Go.Proofs.Ytjeeofakogoboaa.V.bC (L ++ List.replicate (G[i] % (5 : Nat)) Bool.false) ++ [C.sc (Go.Value.bool Bool.true)]) Bool.false]) (by kernel_rfl) (owed (by (simp; omega)) (owed (by rfl) (owed (by (simp; omega)) (owed (sil_in G i G[i] hlt rfl hb (G[i] % 5) 0 L (by omega) (by omega) ) (owed (by rfl) (owed (by (simp; done)) (owed (by (simp; omega)) owed0))))))) ?_
    have hd : (G.take 100).drop i = G[i] :: (G.take 100).drop (i + 1) := by
      rw [List.drop_eq_getElem_cons (by rw [List.length_take]; omega)]
      simp
    rw [hd]
    refine SimL.to (SimL.from (ih (i + 1) (L ++ grp G[i]) (by omega) (by simp [grp]; omega)) (by simp [sst, nD, nC, one, lsD, slU, i1, grp, Nat.add_assoc]) (by simp [lsO, bC, grp])) ?_ ?_
    · simp
    · simp
theorem sil_grp (m : Nat) (r : List Bool) : ∀ q, q + m ≤ 5 → sil (List.replicate m false ++ true :: r) q = sil r 1 := by
  induction m with
  | zero => intro q _; simp [sil]
  | succ m ih =>
    intro q hq
    rw [List.replicate_succ, List.cons_append]
    simp only [sil, Bool.false_eq_true, if_false]
    rw [if_neg (by omega)]
    exact ih _ (by omega)
theorem sil_grps : ∀ Gs : List Nat, sil ((Gs.map grp).flatten) 1 = 0
  | [] => rfl
  | g :: Gs => by
    rw [List.map_cons, List.flatten_cons, grp, List.append_assoc, List.singleton_append, sil_grp _ _ _ (by omega)]
    exact sil_grps Gs
theorem len_grps : ∀ Gs : List Nat, ((Gs.map grp).flatten).length ≤ 5 * Gs.length
  | [] => by simp
  | g :: Gs => by
    have := len_grps Gs
    simp only [List.map_cons, List.flatten_cons, List.length_append, List.length_cons, grp, List.length_replicate, List.length_nil]
    omega
theorem silence_ok (G : List Nat) (hG : ∀ g ∈ G, g ≤ 255) : FnC Try.prog 6 [] [slU G] (vBool true) [] := by
  have hl := len_grps ((G.take 100).drop 0)
  have hF : (([true] ++ (((G.take 100).drop 0).map grp).flatten)).length ≤ 600 := by
    simp only [List.length_append, List.length_cons, List.length_nil]
    have h2 : ((G.take 100).drop 0).length ≤ 100 := by simp; omega
    omega
  have hs : sil ([true] ++ (((G.take 100).drop 0).map grp).flatten) 0 = 0 := by
    show sil (true :: _) 0 = 0
    simp only [sil, if_true]
    rw [if_neg (by omega)]
    exact sil_grps _
  have hout := sil_out G hG (min G.length 100) 0 [true] (by omega) (by simp)
  generalize hFd : [true] ++ (((G.take 100).drop 0).map grp).flatten = F at *
  have hn := sil_falses F.length 0 (by omega)
  have w6 : IntKind.i64.wrap ((F.length : Int).tdiv 6) = ((F.length / 6 : Nat) : Int) := by
    rw [Int.tdiv_eq_ediv_of_nonneg (by omega), wrap_eq (by omega) (by omega)]; omega
  have w2 : IntKind.i64.wrap ((F.length : Int).tdiv 2) = ((F.length / 2 : Nat) : Int) := by
    rw [Int.tdiv_eq_ediv_of_nonneg (by omega), wrap_eq (by omega) (by omega)]; omega
  have hz : (List.replicate F.length [bC false]).flatten = (List.replicate F.length false).map bC := by
    rw [List.map_replicate]
    induction F.length with
    | zero => rfl
    | succ n ih => simp [List.replicate_succ, ih]
  refine FnC.to (FnC.of_run (Checked.mixed Try.checked) (fn := Try.f6) (c := codeOf Try.f6) (szs := []) (order := []) (res := D.v (V.one (C.sc (Go.Value.bool Bool.true)))) (H' := []) Try.call6 Try.func6 (by kernel_rfl) (ts := [.loop [] [0, 3, 4] [0] 1 (Go.Proofs.Ytjeeofakogoboaa.V.send F) (Go.Proofs.Ytjeeofakogoboaa.V.lsO F), .call [] [0] false (some (([Go.Proofs.Ytjeeofakogoboaa.V.slD F], []))) (D.tup [Go.Proofs.Ytjeeofakogoboaa.V.iV (↑(F.length / (2 : Nat)) : Int), Go.Proofs.Ytjeeofakogoboaa.V.iV (↑(Go.Proofs.Ytjeeofakogoboaa.V.sil F (0 : Nat)) : Int)]) ([]), .call [] [1] false (some (([Go.Proofs.Ytjeeofakogoboaa.V.slD (List.replicate F.length Bool.false)], []))) (D.tup [Go.Proofs.Ytjeeofakogoboaa.V.iV (↑((List.replicate F.length Bool.false).length / (2 : Nat)) : Int), Go.Proofs.Ytjeeofakogoboaa.V.iV (↑(Go.Proofs.Ytjeeofakogoboaa.V.sil (List.replicate F.length Bool.false) (0 : Nat)) : Int)]) ([]), .br true, .br true, .br true, .br true, .br true, .call [] [] false none (vBool Bool.true) ([]), .br true]) (ps := [SimL Go.Proofs.Try.prog (0 : Nat) (lp Go.Proofs.Try.f6 (0 : Nat)) (Go.Proofs.Ytjeeofakogoboaa.V.sst G [Bool.true] (0 : Nat)) (Go.Proofs.Ytjeeofakogoboaa.V.lsO [Bool.true]) (Ex.exit (0 : Nat)) (Go.Proofs.Ytjeeofakogoboaa.V.send F) (Go.Proofs.Ytjeeofakogoboaa.V.lsO F), (@Eq (List D) ([D.v (V.one (C.sl F.length (List.take (F.length * (1 : Nat)) (List.map Go.Proofs.Ytjeeofakogoboaa.V.bC F))))]) ([Go.Proofs.Ytjeeofakogoboaa.V.slD F])), (@Eq (List Ob) ([]) ([])), FnC Go.Proofs.Try.prog (28 : Go.FuncId) [] [Go.Proofs.Ytjeeofakogoboaa.V.slD F] (D.tup [Go.Proofs.Ytjeeofakogoboaa.V.iV (↑(F.length / (2 : Nat)) : Int), Go.Proofs.Ytjeeofakogoboaa.V.iV (↑(Go.Proofs.Ytjeeofakogoboaa.V.sil F (0 : Nat)) : Int)]) [], NoSD (D.tup [Go.Proofs.Ytjeeofakogoboaa.V.iV (↑(F.length / (2 : Nat)) : Int), Go.Proofs.Ytjeeofakogoboaa.V.iV (↑(Go.Proofs.Ytjeeofakogoboaa.V.sil F (0 : Nat)) : Int)]) ∧ ∀ (ob : Ob), ob ∈ [] → NoSOb ob, (↑F.length : Int) = (↑F.length : Int), (0 : Int) ≤ (↑F.length : Int), (↑(1 : Nat) : Int) * (↑F.length : Int) ≤ (281474976710656 : Int), (@Eq (List D) ([D.v (V.one (C.sl (↑F.length : Int).toNat (List.take ((↑F.length : Int).toNat * (1 : Nat)) (zeroRow (Go.Value.bool Bool.false) (↑F.length : Int).toNat))))]) ([Go.Proofs.Ytjeeofakogoboaa.V.slD (List.replicate F.length Bool.false)])), (@Eq (List Ob) ([]) ([])), FnC Go.Proofs.Try.prog (28 : Go.FuncId) [] [Go.Proofs.Ytjeeofakogoboaa.V.slD (List.replicate F.length Bool.false)] (D.tup [Go.Proofs.Ytjeeofakogoboaa.V.iV (↑((List.replicate F.length Bool.false).length / (2 : Nat)) : Int), Go.Proofs.Ytjeeofakogoboaa.V.iV (↑(Go.Proofs.Ytjeeofakogoboaa.V.sil (List.replicate F.length Bool.false) (0 : Nat)) : Int)]) [], NoSD (D.tup [Go.Proofs.Ytjeeofakogoboaa.V.iV (↑((List.replicate F.length Bool.false).length / (2 : Nat)) : Int), Go.Proofs.Ytjeeofakogoboaa.V.iV (↑(Go.Proofs.Ytjeeofakogoboaa.V.sil (List.replicate F.length Bool.false) (0 : Nat)) : Int)]) ∧ ∀ (ob : Ob), ob ∈ [] → NoSOb ob, ((↑(Go.Proofs.Ytjeeofakogoboaa.V.sil F (0 : Nat)) : Int) == (0 : Int)) = Bool.true, (6 : Int) ≠ (0 : Int), Bool.true = Bool.true, ((↑(Go.Proofs.Ytjeeofakogoboaa.V.sil (List.replicate F.length Bool.false) (0 : Nat)) : Int) == Go.IntKind.i64.wrap ((↑(↑F.length : Int).toNat : Int).tdiv (6 : Int))) = Bool.true, (2 : Int) ≠ (0 : Int), Bool.true = Bool.true, ((↑((List.replicate F.length Bool.false).length / (2 : Nat)) : Int) == Go.IntKind.i64.wrap ((↑(↑F.length : Int).toNat : Int).tdiv (2 : Int))) = Bool.true, FnC Go.Proofs.Try.prog (26 : Go.FuncId) [] [] (vBool Bool.true) [], NoSD (vBool Bool.true) ∧ ∀ (ob : Ob), ob ∈ [] → NoSOb ob, Bool.true = Bool.true]) (by kernel_rfl) (owed (hout ) (owed (by (simp [slD, List.take_of_length_le, zeroRow, Value.cells]; done)) (owed (by (simp [slD, List.take_of_length_le, zeroRow, Value.cells]; done)) (owed (count_ok F (by omega)) (owed (nosOf (by first | rfl | (simp [noSD, noSV, noSVs, noSs, noS, noSObs]))) (owed (by (simp [slD, List.take_of_length_le, zeroRow, Value.cells]; done)) (owed (by (simp [slD, List.take_of_length_le, zeroRow, Value.cells]; done)) (owed (by omega) (owed (by (simp [slD, zeroRow, Value.cells, ← hz, bC]; done)) (owed (by (simp [slD, List.take_of_length_le, zeroRow, Value.cells]; done)) (owed (count_ok (List.replicate F.length false) (by (simp; omega))) (owed (nosOf (by first | rfl | (simp [noSD, noSV, noSVs, noSs, noS, noSObs]))) (owed (by (simp [nC, iV, hs, hn, w2, w6]; done)) (owed (by (simp [slD, List.take_of_length_le, zeroRow, Value.cells]; done)) (owed (by (simp [slD, List.take_of_length_le, zeroRow, Value.cells]; done)) (owed (by (simp_all; done)) (owed (by (simp [slD, List.take_of_length_le, zeroRow, Value.cells]; done)) (owed (by (simp [slD, List.take_of_length_le, zeroRow, Value.cells]; done)) (owed (by (simp_all; done)) (owed (awake_ok ) (owed (nosOf (by first | rfl | (simp [noSD, noSV, noSVs, noSs, noS, noSObs]))) (owed (by (simp [slD, List.take_of_length_le, zeroRow, Value.cells]; done)) owed0))))))))))))))))))))))) rfl rfl
end Go.Proofs.Ytjeeofakogoboaa.V
