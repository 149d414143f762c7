/- Vows: the states that two ends can be in, and that there are no others. It states nothing of any program. -/
import Derived.KernelRfl
namespace Go.Proofs.Ytjeeofakogoboaa.F
set_option linter.unusedVariables false
set_option maxRecDepth 100000

/-- A word: a vow; a recanting; free; a parting. -/
inductive Wd where
  | v | r | f | p
/-- One's own vow: none, open, recanted. -/
inductive Mi where
  | z | o | r
/-- How many: none, one, two, three or more. -/
inductive Ct where
  | c0 | c1 | c2 | c3
def Ct.inc : Ct → Ct
  | .c0 => .c1
  | .c1 => .c2
  | _ => .c3
structure End where
  m : Mi
  t : Bool
  b : Bool
  o : Ct
structure St where
  a : End
  b : End
  p : List Wd
  q : List Wd

def bindF (x : End) : End := ⟨.z, false, true, match x.m with | .r => x.o.inc | _ => x.o⟩
def grantF (x : End) : End × List Wd := match x.m, x.b with
  | .z, false => match x.t with
    | true => (bindF x, [.v])
    | false => ({ x with m := .o }, [.v])
  | _, _ => (x, [])
def recantF (x : End) : End × List Wd := match x.m with
  | .o => ({ x with m := .r }, [.r])
  | _ => (x, [])
def partF (x : End) : End × List Wd := match x.b with
  | true => ({ x with b := false }, [.p])
  | false => (x, [])
def hearF (x : End) : Wd → End × List Wd
  | .v => match x.m with
    | .z => match x.b with
      | false => ({ x with t := true }, [])
      | true => (x, [])
    | _ => (bindF x, [])
  | .r => ({ x with t := false }, [.f])
  | .f => match x.o with
    | .c0 => match x.m with
      | .r => ({ x with m := .z }, [])
      | _ => (x, [])
    | .c1 => ({ x with o := .c0 }, [])
    | .c2 => ({ x with o := .c1 }, [])
    | .c3 => ({ x with o := .c2 }, [])
  | .p => ({ x with b := false }, [])

/-- What is done: a vow, a recanting, a parting, a delivery. -/
inductive Do where
  | up | late | down | deliver
def app : List Wd → List Wd → List Wd
  | [], l => l
  | x :: k, l => x :: app k l
def stepF (s : St) : Do → St
  | .up => match grantF s.a with | (a, w) => ⟨a, s.b, app s.p w, s.q⟩
  | .late => match recantF s.a with | (a, w) => ⟨a, s.b, app s.p w, s.q⟩
  | .down => match partF s.a with | (a, w) => ⟨a, s.b, app s.p w, s.q⟩
  | .deliver => match s.p with
    | [] => s
    | x :: p => match hearF s.b x with | (b, w) => ⟨s.a, b, p, app s.q w⟩
def flipF (s : St) : St := ⟨s.b, s.a, s.q, s.p⟩

inductive Le where
  | l0 | l1 | l2 | l3 | le
inductive Tr where
  | no
  | yes
  | node (a b c d e : Tr)
def walk : Tr → List Le → Bool
  | .yes, [] => true
  | .node a b c d e, x :: l => match x with
    | .l0 => walk a l
    | .l1 => walk b l
    | .l2 => walk c l
    | .l3 => walk d l
    | .le => walk e l
  | _, _ => false

def pM : Mi → Le
  | .z => .l0 | .o => .l1 | .r => .l2
def pB : Bool → Le
  | false => .l0 | true => .l1
def pC : Ct → Le
  | .c0 => .l0 | .c1 => .l1 | .c2 => .l2 | .c3 => .l3
def pW : Wd → Le
  | .v => .l0 | .r => .l1 | .f => .l2 | .p => .l3
def pL : List Wd → List Le → List Le
  | [], l => .le :: l
  | x :: k, l => pW x :: pL k l
def pE (x : End) (l : List Le) : List Le := pM x.m :: pB x.t :: pB x.b :: pC x.o :: l
def path (s : St) : List Le := pE s.a (pE s.b (pL s.p (pL s.q [])))

def dM : Le → Mi
  | .l0 => .z | .l1 => .o | _ => .r
def dB : Le → Bool
  | .l0 => false | _ => true
def dC : Le → Ct
  | .l0 => .c0 | .l1 => .c1 | .l2 => .c2 | _ => .c3
def dL : List Le → List Wd × List Le
  | .l0 :: l => match dL l with | (k, r) => (.v :: k, r)
  | .l1 :: l => match dL l with | (k, r) => (.r :: k, r)
  | .l2 :: l => match dL l with | (k, r) => (.f :: k, r)
  | .l3 :: l => match dL l with | (k, r) => (.p :: k, r)
  | .le :: l => ([], l)
  | [] => ([], [])
def decode : List Le → Option St
  | a1 :: a2 :: a3 :: a4 :: b1 :: b2 :: b3 :: b4 :: l => match dL l with
    | (p, r) => match dL r with
      | (q, _) => some ⟨⟨dM a1, dB a2, dB a3, dC a4⟩, ⟨dM b1, dB b2, dB b3, dC b4⟩, p, q⟩
  | _ => none

/-- Does something hold of all that a tree knows (the letters so far, the last one first). -/
def allT (P : List Le → Bool) : Tr → List Le → Bool
  | .no, _ => true
  | .yes, l => P l
  | .node a b c d e, l => allT P a (.l0 :: l) && (allT P b (.l1 :: l) && (allT P c (.l2 :: l) && (allT P d (.l3 :: l) && allT P e (.le :: l))))

def rev : List Le → List Le → List Le
  | [], r => r
  | x :: l, r => rev l (x :: r)

theorem allT_walk (P : List Le → Bool) : ∀ (t : Tr) (k l : List Le), allT P t k = true → walk t l = true → P (rev l k) = true
  | .no, k, l, _, h => by simp [walk] at h
  | .yes, k, [], h, _ => h
  | .yes, k, _ :: _, _, h => by simp [walk] at h
  | .node .., k, [], _, h => by simp [walk] at h
  | .node a b c d e, k, x :: l, h, hw => by
    simp only [allT, Bool.and_eq_true] at h
    obtain ⟨h1, h2, h3, h4, h5⟩ := h
    cases x with
    | l0 => exact allT_walk P a _ l h1 hw
    | l1 => exact allT_walk P b _ l h2 hw
    | l2 => exact allT_walk P c _ l h3 hw
    | l3 => exact allT_walk P d _ l h4 hw
    | le => exact allT_walk P e _ l h5 hw

theorem dL_pL : ∀ (k : List Wd) (l : List Le), dL (pL k l) = (k, l)
  | [], l => rfl
  | x :: k, l => by cases x <;> simp only [pL, pW, dL, dL_pL k l]

theorem decode_path (s : St) : decode (path s) = some s := by
  obtain ⟨⟨m, t, b, o⟩, ⟨m', t', b', o'⟩, p, q⟩ := s
  simp only [path, pE, decode, dL_pL]
  cases m <;> cases t <;> cases b <;> cases o <;> cases m' <;> cases t' <;> cases b' <;> cases o' <;> rfl

def q0 : Tr := .node .no .no .no .no .yes
def q1 : Tr := .node .no .no .no q0 .yes
def q2 : Tr := .node .no .no .no .no q1
def q3 : Tr := .node .no .no .no q2 q1
def q4 : Tr := .node .no .no .no q0 .no
def q5 : Tr := .node .no q4 .no .no .no
def q6 : Tr := .node .no .no q2 .no q5
def q7 : Tr := .node .no q1 .no .no .no
def q8 : Tr := .node .no .no q3 q6 q7
def q9 : Tr := .node .no .no .no q2 q0
def q10 : Tr := .node .no .no q9 q6 .no
def q11 : Tr := .node .no .no q10 .no .no
def q12 : Tr := .node q3 q8 q11 .no .no
def q13 : Tr := .node .no .no .no .no q0
def q14 : Tr := .node .no .no .no q13 .no
def q15 : Tr := .node .no q0 .no .no .no
def q16 : Tr := .node .no .no q13 .no q15
def q17 : Tr := .node .no .no q14 q16 .no
def q18 : Tr := .node .no .no q17 .no .no
def q19 : Tr := .node q14 q17 q18 .no .no
def q20 : Tr := .node q12 q19 .no .no .no
def q21 : Tr := .node q20 .no .no .no .no
def q22 : Tr := .node q0 .no .no .no .no
def q23 : Tr := .node q0 .no .no q22 .no
def q24 : Tr := .node q14 .no .no .no q23
def q25 : Tr := .node q14 .no .no q24 q23
def q26 : Tr := .node .no .no q14 .no .no
def q27 : Tr := .node .no .no .no q22 .no
def q28 : Tr := .node .no q27 .no .no .no
def q29 : Tr := .node q26 .no q24 .no q28
def q30 : Tr := .node .no q23 .no .no .no
def q31 : Tr := .node q26 .no q25 q29 q30
def q32 : Tr := .node q14 .no .no q24 q22
def q33 : Tr := .node .no .no q32 q29 .no
def q34 : Tr := .node .no .no q33 .no .no
def q35 : Tr := .node q25 q31 q34 .no .no
def q36 : Tr := .node q35 .no .no .no .no
def q37 : Tr := .node q36 .no .no .no .no
def q38 : Tr := .node q15 .no .no .no .no
def q39 : Tr := .node q15 .no .no q38 .no
def q40 : Tr := .node q17 .no q13 .no q39
def q41 : Tr := .node q17 .no q13 q40 q39
def q42 : Tr := .node .no .no .no q38 .no
def q43 : Tr := .node .no q42 .no .no .no
def q44 : Tr := .node q18 .no q40 .no q43
def q45 : Tr := .node .no q39 .no .no .no
def q46 : Tr := .node q18 .no q41 q44 q45
def q47 : Tr := .node q17 .no q13 q40 q38
def q48 : Tr := .node .no .no q47 q44 .no
def q49 : Tr := .node .no .no q48 .no .no
def q50 : Tr := .node q41 q46 q49 .no .no
def q51 : Tr := .node q50 .no .no .no .no
def q52 : Tr := .node q51 .no .no .no .no
def q53 : Tr := .node q21 q37 q52 .no .no
def q54 : Tr := .node .no .no q0 .no .no
def q55 : Tr := .node .no .no q1 q54 .no
def q56 : Tr := .node .no .no .no .no q55
def q57 : Tr := .node .no q9 .no q56 q55
def q58 : Tr := .node .no .no q4 q54 .no
def q59 : Tr := .node .no q58 q5 .no .no
def q60 : Tr := .node .no .no q56 .no q59
def q61 : Tr := .node .no q55 q7 .no .no
def q62 : Tr := .node .no q10 q57 q60 q61
def q63 : Tr := .node .no .no .no q56 q54
def q64 : Tr := .node .no q10 q63 q60 .no
def q65 : Tr := .node .no q11 q64 .no .no
def q66 : Tr := .node q57 q62 q65 .no .no
def q67 : Tr := .node .no .no .no .no q54
def q68 : Tr := .node .no q14 .no q67 .no
def q69 : Tr := .node .no q54 q15 .no .no
def q70 : Tr := .node .no .no q67 .no q69
def q71 : Tr := .node .no q17 q68 q70 .no
def q72 : Tr := .node .no .no .no q67 .no
def q73 : Tr := .node .no q17 q72 q70 .no
def q74 : Tr := .node .no q18 q73 .no .no
def q75 : Tr := .node q68 q71 q74 .no .no
def q76 : Tr := .node q66 q75 .no .no .no
def q77 : Tr := .node q76 .no .no .no .no
def q78 : Tr := .node q54 .no q22 .no .no
def q79 : Tr := .node q54 .no q23 q78 .no
def q80 : Tr := .node q68 .no .no .no q79
def q81 : Tr := .node q68 q32 .no q80 q79
def q82 : Tr := .node .no q26 q68 .no .no
def q83 : Tr := .node .no .no q27 q78 .no
def q84 : Tr := .node .no q83 q28 .no .no
def q85 : Tr := .node q82 .no q80 .no q84
def q86 : Tr := .node .no .no q23 q78 .no
def q87 : Tr := .node .no q86 q30 .no .no
def q88 : Tr := .node q82 q33 q81 q85 q87
def q89 : Tr := .node q68 .no .no q80 q78
def q90 : Tr := .node .no q33 q89 q85 .no
def q91 : Tr := .node .no q34 q90 .no .no
def q92 : Tr := .node q81 q88 q91 .no .no
def q93 : Tr := .node q92 .no .no .no .no
def q94 : Tr := .node q93 .no .no .no .no
def q95 : Tr := .node q69 .no q38 .no .no
def q96 : Tr := .node q69 .no q39 q95 .no
def q97 : Tr := .node q73 .no q67 .no q96
def q98 : Tr := .node q73 q47 q67 q97 q96
def q99 : Tr := .node .no .no q42 q95 .no
def q100 : Tr := .node .no q99 q43 .no .no
def q101 : Tr := .node q74 .no q97 .no q100
def q102 : Tr := .node .no .no q39 q95 .no
def q103 : Tr := .node .no q102 q45 .no .no
def q104 : Tr := .node q74 q48 q98 q101 q103
def q105 : Tr := .node q73 .no q67 q97 q95
def q106 : Tr := .node .no q48 q105 q101 .no
def q107 : Tr := .node .no q49 q106 .no .no
def q108 : Tr := .node q98 q104 q107 .no .no
def q109 : Tr := .node q108 .no .no .no .no
def q110 : Tr := .node q109 .no .no .no .no
def q111 : Tr := .node q77 q94 q110 .no .no
def q112 : Tr := .node .no .no q4 .no .no
def q113 : Tr := .node .no .no .no .no q112
def q114 : Tr := .node .no .no .no q113 .no
def q115 : Tr := .node .no .no q58 .no .no
def q116 : Tr := .node .no .no .no .no q115
def q117 : Tr := .node .no .no q55 .no .no
def q118 : Tr := .node .no q114 .no q116 q117
def q119 : Tr := .node .no q112 q5 .no .no
def q120 : Tr := .node .no .no q113 .no q119
def q121 : Tr := .node .no .no q114 q120 .no
def q122 : Tr := .node .no q58 .no .no .no
def q123 : Tr := .node .no q115 q122 .no .no
def q124 : Tr := .node .no .no q116 .no q123
def q125 : Tr := .node .no q55 .no .no .no
def q126 : Tr := .node .no q117 q125 .no .no
def q127 : Tr := .node .no q121 q118 q124 q126
def q128 : Tr := .node .no .no q121 .no .no
def q129 : Tr := .node .no .no .no q116 .no
def q130 : Tr := .node .no q121 q129 q124 .no
def q131 : Tr := .node .no q128 q130 .no .no
def q132 : Tr := .node q118 q127 q131 .no .no
def q133 : Tr := .node .no .no q54 .no .no
def q134 : Tr := .node .no .no .no .no q133
def q135 : Tr := .node .no q72 .no q134 .no
def q136 : Tr := .node .no .no q72 q70 .no
def q137 : Tr := .node .no q54 .no .no .no
def q138 : Tr := .node .no q133 q137 .no .no
def q139 : Tr := .node .no .no q134 .no q138
def q140 : Tr := .node .no q136 q135 q139 .no
def q141 : Tr := .node .no .no q136 .no .no
def q142 : Tr := .node .no .no .no q134 .no
def q143 : Tr := .node .no q136 q142 q139 .no
def q144 : Tr := .node .no q141 q143 .no .no
def q145 : Tr := .node q135 q140 q144 .no .no
def q146 : Tr := .node q132 q145 .no .no .no
def q147 : Tr := .node q146 .no .no .no .no
def q148 : Tr := .node .no q72 .no .no .no
def q149 : Tr := .node .no q14 .no .no .no
def q150 : Tr := .node .no .no q27 .no .no
def q151 : Tr := .node q149 .no .no .no q150
def q152 : Tr := .node q149 .no .no q151 .no
def q153 : Tr := .node .no .no q83 .no .no
def q154 : Tr := .node q148 .no .no .no q153
def q155 : Tr := .node .no .no q86 .no .no
def q156 : Tr := .node q148 q152 .no q154 q155
def q157 : Tr := .node .no .no q72 .no .no
def q158 : Tr := .node .no q157 q148 .no .no
def q159 : Tr := .node .no q26 q149 .no .no
def q160 : Tr := .node .no q150 q28 .no .no
def q161 : Tr := .node q159 .no q151 .no q160
def q162 : Tr := .node .no .no q152 q161 .no
def q163 : Tr := .node .no q83 .no .no .no
def q164 : Tr := .node .no q153 q163 .no .no
def q165 : Tr := .node q158 .no q154 .no q164
def q166 : Tr := .node .no q86 .no .no .no
def q167 : Tr := .node .no q155 q166 .no .no
def q168 : Tr := .node q158 q162 q156 q165 q167
def q169 : Tr := .node .no .no q162 .no .no
def q170 : Tr := .node q148 .no .no q154 .no
def q171 : Tr := .node .no q162 q170 q165 .no
def q172 : Tr := .node .no q169 q171 .no .no
def q173 : Tr := .node q156 q168 q172 .no .no
def q174 : Tr := .node q173 .no .no .no .no
def q175 : Tr := .node q174 .no .no .no .no
def q176 : Tr := .node .no q136 .no .no .no
def q177 : Tr := .node .no q17 .no .no .no
def q178 : Tr := .node .no .no q42 .no .no
def q179 : Tr := .node q177 .no .no .no q178
def q180 : Tr := .node q177 .no .no q179 .no
def q181 : Tr := .node .no .no q99 .no .no
def q182 : Tr := .node q176 .no .no .no q181
def q183 : Tr := .node .no .no q102 .no .no
def q184 : Tr := .node q176 q180 .no q182 q183
def q185 : Tr := .node .no q141 q176 .no .no
def q186 : Tr := .node .no q18 q177 .no .no
def q187 : Tr := .node .no q178 q43 .no .no
def q188 : Tr := .node q186 .no q179 .no q187
def q189 : Tr := .node .no .no q180 q188 .no
def q190 : Tr := .node .no q99 .no .no .no
def q191 : Tr := .node .no q181 q190 .no .no
def q192 : Tr := .node q185 .no q182 .no q191
def q193 : Tr := .node .no q102 .no .no .no
def q194 : Tr := .node .no q183 q193 .no .no
def q195 : Tr := .node q185 q189 q184 q192 q194
def q196 : Tr := .node .no .no q189 .no .no
def q197 : Tr := .node q176 .no .no q182 .no
def q198 : Tr := .node .no q189 q197 q192 .no
def q199 : Tr := .node .no q196 q198 .no .no
def q200 : Tr := .node q184 q195 q199 .no .no
def q201 : Tr := .node q200 .no .no .no .no
def q202 : Tr := .node q201 .no .no .no .no
def q203 : Tr := .node q147 q175 q202 .no .no
def q204 : Tr := .node q53 q111 q203 .no .no
def q205 : Tr := .node .no .no .no .no q4
def q206 : Tr := .node .no .no q205 .no q5
def q207 : Tr := .node .no .no q206 .no .no
def q208 : Tr := .node q205 q206 q207 .no .no
def q209 : Tr := .node .no .no q16 .no .no
def q210 : Tr := .node q13 q16 q209 .no .no
def q211 : Tr := .node q208 q210 .no .no .no
def q212 : Tr := .node q211 .no .no .no .no
def q213 : Tr := .node q13 .no .no .no .no
def q214 : Tr := .node q13 .no .no q213 q27
def q215 : Tr := .node .no .no q13 .no .no
def q216 : Tr := .node q215 .no q213 .no .no
def q217 : Tr := .node q215 .no q214 q216 q28
def q218 : Tr := .node .no .no q214 q216 q28
def q219 : Tr := .node .no .no q218 .no .no
def q220 : Tr := .node q214 q217 q219 .no .no
def q221 : Tr := .node q220 .no .no .no .no
def q222 : Tr := .node q221 .no .no .no .no
def q223 : Tr := .node q16 .no .no .no .no
def q224 : Tr := .node q16 .no .no q223 q42
def q225 : Tr := .node q209 .no q223 .no .no
def q226 : Tr := .node q209 .no q224 q225 q43
def q227 : Tr := .node .no .no q224 q225 q43
def q228 : Tr := .node .no .no q227 .no .no
def q229 : Tr := .node q224 q226 q228 .no .no
def q230 : Tr := .node q229 .no .no .no .no
def q231 : Tr := .node q230 .no .no .no .no
def q232 : Tr := .node q212 q222 q231 .no .no
def q233 : Tr := .node .no q205 .no .no q58
def q234 : Tr := .node .no q206 q233 .no q59
def q235 : Tr := .node .no .no .no .no q58
def q236 : Tr := .node .no q206 q235 .no q59
def q237 : Tr := .node .no q207 q236 .no .no
def q238 : Tr := .node q233 q234 q237 .no .no
def q239 : Tr := .node .no q13 .no .no q54
def q240 : Tr := .node .no q16 q239 .no q69
def q241 : Tr := .node .no q16 q67 .no q69
def q242 : Tr := .node .no q209 q241 .no .no
def q243 : Tr := .node q239 q240 q242 .no .no
def q244 : Tr := .node q238 q243 .no .no .no
def q245 : Tr := .node q244 .no .no .no .no
def q246 : Tr := .node q239 .no .no .no .no
def q247 : Tr := .node q239 q214 .no q246 q83
def q248 : Tr := .node .no q215 q239 .no .no
def q249 : Tr := .node q248 .no q246 .no .no
def q250 : Tr := .node q248 q218 q247 q249 q84
def q251 : Tr := .node q239 .no .no q246 q83
def q252 : Tr := .node .no q218 q251 q249 q84
def q253 : Tr := .node .no q219 q252 .no .no
def q254 : Tr := .node q247 q250 q253 .no .no
def q255 : Tr := .node q254 .no .no .no .no
def q256 : Tr := .node q255 .no .no .no .no
def q257 : Tr := .node q241 .no .no .no .no
def q258 : Tr := .node q241 q224 .no q257 q99
def q259 : Tr := .node q242 .no q257 .no .no
def q260 : Tr := .node q242 q227 q258 q259 q100
def q261 : Tr := .node q241 .no .no q257 q99
def q262 : Tr := .node .no q227 q261 q259 q100
def q263 : Tr := .node .no q228 q262 .no .no
def q264 : Tr := .node q258 q260 q263 .no .no
def q265 : Tr := .node q264 .no .no .no .no
def q266 : Tr := .node q265 .no .no .no .no
def q267 : Tr := .node q245 q256 q266 .no .no
def q268 : Tr := .node .no q113 .no .no q115
def q269 : Tr := .node .no q120 q268 .no q123
def q270 : Tr := .node .no .no q120 .no .no
def q271 : Tr := .node .no q120 q116 .no q123
def q272 : Tr := .node .no q270 q271 .no .no
def q273 : Tr := .node q268 q269 q272 .no .no
def q274 : Tr := .node .no q67 .no .no q133
def q275 : Tr := .node .no q70 q274 .no q138
def q276 : Tr := .node .no .no q70 .no .no
def q277 : Tr := .node .no q70 q134 .no q138
def q278 : Tr := .node .no q276 q277 .no .no
def q279 : Tr := .node q274 q275 q278 .no .no
def q280 : Tr := .node q273 q279 .no .no .no
def q281 : Tr := .node q280 .no .no .no .no
def q282 : Tr := .node .no q67 .no .no .no
def q283 : Tr := .node .no q13 .no .no .no
def q284 : Tr := .node q283 .no .no .no .no
def q285 : Tr := .node q283 .no .no q284 q150
def q286 : Tr := .node q282 .no .no .no .no
def q287 : Tr := .node q282 q285 .no q286 q153
def q288 : Tr := .node .no .no q67 .no .no
def q289 : Tr := .node .no q288 q282 .no .no
def q290 : Tr := .node .no q215 q283 .no .no
def q291 : Tr := .node q290 .no q284 .no .no
def q292 : Tr := .node .no .no q285 q291 q160
def q293 : Tr := .node q289 .no q286 .no .no
def q294 : Tr := .node q289 q292 q287 q293 q164
def q295 : Tr := .node .no .no q292 .no .no
def q296 : Tr := .node q282 .no .no q286 q153
def q297 : Tr := .node .no q292 q296 q293 q164
def q298 : Tr := .node .no q295 q297 .no .no
def q299 : Tr := .node q287 q294 q298 .no .no
def q300 : Tr := .node q299 .no .no .no .no
def q301 : Tr := .node q300 .no .no .no .no
def q302 : Tr := .node .no q70 .no .no .no
def q303 : Tr := .node .no q16 .no .no .no
def q304 : Tr := .node q303 .no .no .no .no
def q305 : Tr := .node q303 .no .no q304 q178
def q306 : Tr := .node q302 .no .no .no .no
def q307 : Tr := .node q302 q305 .no q306 q181
def q308 : Tr := .node .no q276 q302 .no .no
def q309 : Tr := .node .no q209 q303 .no .no
def q310 : Tr := .node q309 .no q304 .no .no
def q311 : Tr := .node .no .no q305 q310 q187
def q312 : Tr := .node q308 .no q306 .no .no
def q313 : Tr := .node q308 q311 q307 q312 q191
def q314 : Tr := .node .no .no q311 .no .no
def q315 : Tr := .node q302 .no .no q306 q181
def q316 : Tr := .node .no q311 q315 q312 q191
def q317 : Tr := .node .no q314 q316 .no .no
def q318 : Tr := .node q307 q313 q317 .no .no
def q319 : Tr := .node q318 .no .no .no .no
def q320 : Tr := .node q319 .no .no .no .no
def q321 : Tr := .node q281 q301 q320 .no .no
def q322 : Tr := .node q232 q267 q321 .no .no
def q323 : Tr := .node q204 q322 .no .no .no
def q324 : Tr := .node .no .no .no q13 q0
def q325 : Tr := .node .no .no q324 q215 .no
def q326 : Tr := .node .no .no q325 .no .no
def q327 : Tr := .node q324 q325 q326 .no .no
def q328 : Tr := .node q327 .no .no .no .no
def q329 : Tr := .node q328 .no .no .no .no
def q330 : Tr := .node .no .no .no .no q15
def q331 : Tr := .node .no .no .no q330 q15
def q332 : Tr := .node .no .no q330 .no .no
def q333 : Tr := .node .no .no q331 q332 .no
def q334 : Tr := .node .no .no q333 .no .no
def q335 : Tr := .node q331 q333 q334 .no .no
def q336 : Tr := .node q335 .no .no .no .no
def q337 : Tr := .node q336 .no .no .no .no
def q338 : Tr := .node .no q329 q337 .no .no
def q339 : Tr := .node .no q324 .no q67 q54
def q340 : Tr := .node .no q325 q339 q288 .no
def q341 : Tr := .node .no .no .no q67 q54
def q342 : Tr := .node .no q325 q341 q288 .no
def q343 : Tr := .node .no q326 q342 .no .no
def q344 : Tr := .node q339 q340 q343 .no .no
def q345 : Tr := .node q344 .no .no .no .no
def q346 : Tr := .node q345 .no .no .no .no
def q347 : Tr := .node .no .no .no .no q69
def q348 : Tr := .node .no q331 .no q347 q69
def q349 : Tr := .node .no .no q347 .no .no
def q350 : Tr := .node .no q333 q348 q349 .no
def q351 : Tr := .node .no .no .no q347 q69
def q352 : Tr := .node .no q333 q351 q349 .no
def q353 : Tr := .node .no q334 q352 .no .no
def q354 : Tr := .node q348 q350 q353 .no .no
def q355 : Tr := .node q354 .no .no .no .no
def q356 : Tr := .node q355 .no .no .no .no
def q357 : Tr := .node .no q346 q356 .no .no
def q358 : Tr := .node q338 q357 .no .no .no
def q359 : Tr := .node q358 .no .no .no .no
def q360 : Tr := .node q323 q359 .no .no .no
def q361 : Tr := .node q2 .no .no .no .no
def q362 : Tr := .node q4 .no .no .no .no
def q363 : Tr := .node q4 .no .no q362 .no
def q364 : Tr := .node q2 .no .no q361 q363
def q365 : Tr := .node .no .no q2 .no q7
def q366 : Tr := .node q6 .no q361 .no .no
def q367 : Tr := .node q5 .no .no .no .no
def q368 : Tr := .node q5 q363 .no q367 .no
def q369 : Tr := .node q365 .no q364 q366 q368
def q370 : Tr := .node q13 .no .no q361 .no
def q371 : Tr := .node q5 .no .no q367 .no
def q372 : Tr := .node .no .no q370 q366 q371
def q373 : Tr := .node .no q371 .no .no .no
def q374 : Tr := .node .no .no q372 .no q373
def q375 : Tr := .node q364 q369 q374 .no .no
def q376 : Tr := .node .no .no .no q213 q23
def q377 : Tr := .node q16 .no q213 .no .no
def q378 : Tr := .node q15 q23 .no q38 .no
def q379 : Tr := .node .no .no q376 q377 q378
def q380 : Tr := .node .no .no .no q213 .no
def q381 : Tr := .node .no .no q380 q377 q39
def q382 : Tr := .node .no .no q381 .no q45
def q383 : Tr := .node q376 q379 q382 .no .no
def q384 : Tr := .node q375 q383 .no .no .no
def q385 : Tr := .node q2 q365 .no .no .no
def q386 : Tr := .node q385 .no .no .no .no
def q387 : Tr := .node q384 q386 .no .no .no
def q388 : Tr := .node q376 .no .no .no .no
def q389 : Tr := .node q27 .no .no .no .no
def q390 : Tr := .node q27 .no .no q389 .no
def q391 : Tr := .node q376 .no .no q388 q390
def q392 : Tr := .node .no .no q376 .no q30
def q393 : Tr := .node .no .no q376 .no q28
def q394 : Tr := .node q393 .no q388 .no .no
def q395 : Tr := .node q28 .no .no .no .no
def q396 : Tr := .node q28 q390 .no q395 .no
def q397 : Tr := .node q392 .no q391 q394 q396
def q398 : Tr := .node .no .no .no q213 q22
def q399 : Tr := .node q398 .no .no q388 .no
def q400 : Tr := .node q28 .no .no q395 .no
def q401 : Tr := .node .no .no q399 q394 q400
def q402 : Tr := .node .no q400 .no .no .no
def q403 : Tr := .node .no .no q401 .no q402
def q404 : Tr := .node q391 q397 q403 .no .no
def q405 : Tr := .node q404 .no .no .no .no
def q406 : Tr := .node q405 .no .no .no .no
def q407 : Tr := .node q381 .no q213 .no .no
def q408 : Tr := .node q42 .no .no .no .no
def q409 : Tr := .node q42 .no .no q408 .no
def q410 : Tr := .node q381 .no q213 q407 q409
def q411 : Tr := .node .no .no q381 .no q43
def q412 : Tr := .node q411 .no q407 .no .no
def q413 : Tr := .node q43 .no .no .no .no
def q414 : Tr := .node q43 q409 .no q413 .no
def q415 : Tr := .node q382 .no q410 q412 q414
def q416 : Tr := .node .no .no q380 q377 q38
def q417 : Tr := .node q416 .no q213 q407 .no
def q418 : Tr := .node q43 .no .no q413 .no
def q419 : Tr := .node .no .no q417 q412 q418
def q420 : Tr := .node .no q418 .no .no .no
def q421 : Tr := .node .no .no q419 .no q420
def q422 : Tr := .node q410 q415 q421 .no .no
def q423 : Tr := .node q422 .no .no .no .no
def q424 : Tr := .node q423 .no .no .no .no
def q425 : Tr := .node q387 q406 q424 .no .no
def q426 : Tr := .node q56 .no .no .no .no
def q427 : Tr := .node q112 .no q362 .no .no
def q428 : Tr := .node q112 .no q363 q427 .no
def q429 : Tr := .node q56 q370 .no q426 q428
def q430 : Tr := .node .no .no q56 .no q61
def q431 : Tr := .node .no .no q370 q366 .no
def q432 : Tr := .node q60 .no q426 .no .no
def q433 : Tr := .node .no .no q363 q427 .no
def q434 : Tr := .node q119 .no q367 .no .no
def q435 : Tr := .node q119 q433 q368 q434 .no
def q436 : Tr := .node q430 q431 q429 q432 q435
def q437 : Tr := .node .no .no q431 .no .no
def q438 : Tr := .node q67 .no .no q426 .no
def q439 : Tr := .node q119 .no q371 q434 .no
def q440 : Tr := .node .no q431 q438 q432 q439
def q441 : Tr := .node .no .no q371 q434 .no
def q442 : Tr := .node .no q441 q373 .no .no
def q443 : Tr := .node .no q437 q440 .no q442
def q444 : Tr := .node q429 q436 q443 .no .no
def q445 : Tr := .node q67 .no .no .no .no
def q446 : Tr := .node .no q380 .no q445 q79
def q447 : Tr := .node .no .no q380 q377 .no
def q448 : Tr := .node q70 .no q445 .no .no
def q449 : Tr := .node q69 q86 q378 q95 .no
def q450 : Tr := .node .no q447 q446 q448 q449
def q451 : Tr := .node .no .no q447 .no .no
def q452 : Tr := .node .no .no .no q445 .no
def q453 : Tr := .node .no q447 q452 q448 q96
def q454 : Tr := .node .no q451 q453 .no q103
def q455 : Tr := .node q446 q450 q454 .no .no
def q456 : Tr := .node q444 q455 .no .no .no
def q457 : Tr := .node q56 q430 .no .no .no
def q458 : Tr := .node q457 .no .no .no .no
def q459 : Tr := .node q456 q458 .no .no .no
def q460 : Tr := .node q446 .no .no .no .no
def q461 : Tr := .node q150 .no q389 .no .no
def q462 : Tr := .node q150 .no q390 q461 .no
def q463 : Tr := .node q446 q399 .no q460 q462
def q464 : Tr := .node .no .no q380 .no .no
def q465 : Tr := .node .no q464 q446 .no q87
def q466 : Tr := .node .no .no q399 q394 .no
def q467 : Tr := .node .no q464 q446 .no q84
def q468 : Tr := .node q467 .no q460 .no .no
def q469 : Tr := .node .no .no q390 q461 .no
def q470 : Tr := .node q160 .no q395 .no .no
def q471 : Tr := .node q160 q469 q396 q470 .no
def q472 : Tr := .node q465 q466 q463 q468 q471
def q473 : Tr := .node .no .no q466 .no .no
def q474 : Tr := .node .no q380 .no q445 q78
def q475 : Tr := .node q474 .no .no q460 .no
def q476 : Tr := .node q160 .no q400 q470 .no
def q477 : Tr := .node .no q466 q475 q468 q476
def q478 : Tr := .node .no .no q400 q470 .no
def q479 : Tr := .node .no q478 q402 .no .no
def q480 : Tr := .node .no q473 q477 .no q479
def q481 : Tr := .node q463 q472 q480 .no .no
def q482 : Tr := .node q481 .no .no .no .no
def q483 : Tr := .node q482 .no .no .no .no
def q484 : Tr := .node q453 .no q445 .no .no
def q485 : Tr := .node q178 .no q408 .no .no
def q486 : Tr := .node q178 .no q409 q485 .no
def q487 : Tr := .node q453 q417 q445 q484 q486
def q488 : Tr := .node .no .no q417 q412 .no
def q489 : Tr := .node .no q451 q453 .no q100
def q490 : Tr := .node q489 .no q484 .no .no
def q491 : Tr := .node .no .no q409 q485 .no
def q492 : Tr := .node q187 .no q413 .no .no
def q493 : Tr := .node q187 q491 q414 q492 .no
def q494 : Tr := .node q454 q488 q487 q490 q493
def q495 : Tr := .node .no .no q488 .no .no
def q496 : Tr := .node .no q447 q452 q448 q95
def q497 : Tr := .node q496 .no q445 q484 .no
def q498 : Tr := .node q187 .no q418 q492 .no
def q499 : Tr := .node .no q488 q497 q490 q498
def q500 : Tr := .node .no .no q418 q492 .no
def q501 : Tr := .node .no q500 q420 .no .no
def q502 : Tr := .node .no q495 q499 .no q501
def q503 : Tr := .node q487 q494 q502 .no .no
def q504 : Tr := .node q503 .no .no .no .no
def q505 : Tr := .node q504 .no .no .no .no
def q506 : Tr := .node q459 q483 q505 .no .no
def q507 : Tr := .node .no .no .no .no q117
def q508 : Tr := .node q113 .no .no .no .no
def q509 : Tr := .node .no .no .no q508 .no
def q510 : Tr := .node q116 .no .no .no .no
def q511 : Tr := .node .no .no q433 .no .no
def q512 : Tr := .node q507 q509 .no q510 q511
def q513 : Tr := .node .no .no q507 .no q126
def q514 : Tr := .node q120 .no q508 .no .no
def q515 : Tr := .node .no .no q509 q514 .no
def q516 : Tr := .node q124 .no q510 .no .no
def q517 : Tr := .node .no q433 q371 q434 .no
def q518 : Tr := .node .no q511 q517 .no .no
def q519 : Tr := .node q513 q515 q512 q516 q518
def q520 : Tr := .node .no .no q515 .no .no
def q521 : Tr := .node .no .no .no q510 .no
def q522 : Tr := .node .no .no q441 .no .no
def q523 : Tr := .node .no q515 q521 q516 q522
def q524 : Tr := .node .no q441 .no .no .no
def q525 : Tr := .node .no q522 q524 .no .no
def q526 : Tr := .node .no q520 q523 .no q525
def q527 : Tr := .node q512 q519 q526 .no .no
def q528 : Tr := .node q134 .no .no .no .no
def q529 : Tr := .node .no q452 .no q528 q155
def q530 : Tr := .node .no .no q452 q448 .no
def q531 : Tr := .node q139 .no q528 .no .no
def q532 : Tr := .node .no q86 q39 q95 .no
def q533 : Tr := .node .no q155 q532 .no .no
def q534 : Tr := .node .no q530 q529 q531 q533
def q535 : Tr := .node .no .no q530 .no .no
def q536 : Tr := .node .no .no .no q528 .no
def q537 : Tr := .node .no q530 q536 q531 q183
def q538 : Tr := .node .no q535 q537 .no q194
def q539 : Tr := .node q529 q534 q538 .no .no
def q540 : Tr := .node q527 q539 .no .no .no
def q541 : Tr := .node q507 q513 .no .no .no
def q542 : Tr := .node q541 .no .no .no .no
def q543 : Tr := .node q540 q542 .no .no .no
def q544 : Tr := .node .no q452 .no .no q155
def q545 : Tr := .node .no q380 .no .no .no
def q546 : Tr := .node .no q380 .no .no q150
def q547 : Tr := .node q546 .no .no .no .no
def q548 : Tr := .node q545 .no .no q547 .no
def q549 : Tr := .node .no q452 .no .no q153
def q550 : Tr := .node q549 .no .no .no .no
def q551 : Tr := .node .no .no q469 .no .no
def q552 : Tr := .node q544 q548 .no q550 q551
def q553 : Tr := .node .no .no q452 .no .no
def q554 : Tr := .node .no q553 q544 .no q167
def q555 : Tr := .node .no q464 q546 .no q160
def q556 : Tr := .node q555 .no q547 .no .no
def q557 : Tr := .node .no .no q548 q556 .no
def q558 : Tr := .node .no q553 q549 .no q164
def q559 : Tr := .node q558 .no q550 .no .no
def q560 : Tr := .node .no q469 q400 q470 .no
def q561 : Tr := .node .no q551 q560 .no .no
def q562 : Tr := .node q554 q557 q552 q559 q561
def q563 : Tr := .node .no .no q557 .no .no
def q564 : Tr := .node .no q452 .no .no .no
def q565 : Tr := .node q564 .no .no q550 .no
def q566 : Tr := .node .no .no q478 .no .no
def q567 : Tr := .node .no q557 q565 q559 q566
def q568 : Tr := .node .no q478 .no .no .no
def q569 : Tr := .node .no q566 q568 .no .no
def q570 : Tr := .node .no q563 q567 .no q569
def q571 : Tr := .node q552 q562 q570 .no .no
def q572 : Tr := .node q571 .no .no .no .no
def q573 : Tr := .node q572 .no .no .no .no
def q574 : Tr := .node .no q530 .no .no q183
def q575 : Tr := .node .no q447 .no .no .no
def q576 : Tr := .node .no q447 .no .no q178
def q577 : Tr := .node q576 .no .no .no .no
def q578 : Tr := .node q575 .no .no q577 .no
def q579 : Tr := .node .no q530 .no .no q181
def q580 : Tr := .node q579 .no .no .no .no
def q581 : Tr := .node .no .no q491 .no .no
def q582 : Tr := .node q574 q578 .no q580 q581
def q583 : Tr := .node .no q535 q574 .no q194
def q584 : Tr := .node .no q451 q576 .no q187
def q585 : Tr := .node q584 .no q577 .no .no
def q586 : Tr := .node .no .no q578 q585 .no
def q587 : Tr := .node .no q535 q579 .no q191
def q588 : Tr := .node q587 .no q580 .no .no
def q589 : Tr := .node .no q491 q418 q492 .no
def q590 : Tr := .node .no q581 q589 .no .no
def q591 : Tr := .node q583 q586 q582 q588 q590
def q592 : Tr := .node .no .no q586 .no .no
def q593 : Tr := .node .no q530 .no .no .no
def q594 : Tr := .node q593 .no .no q580 .no
def q595 : Tr := .node .no .no q500 .no .no
def q596 : Tr := .node .no q586 q594 q588 q595
def q597 : Tr := .node .no q500 .no .no .no
def q598 : Tr := .node .no q595 q597 .no .no
def q599 : Tr := .node .no q592 q596 .no q598
def q600 : Tr := .node q582 q591 q599 .no .no
def q601 : Tr := .node q600 .no .no .no .no
def q602 : Tr := .node q601 .no .no .no .no
def q603 : Tr := .node q543 q573 q602 .no .no
def q604 : Tr := .node q425 q506 q603 .no .no
def q605 : Tr := .node q604 .no .no .no .no
def q606 : Tr := .node q605 .no .no .no .no
def q607 : Tr := .node .no q2 .no .no .no
def q608 : Tr := .node .no .no .no .no q363
def q609 : Tr := .node q607 .no .no .no .no
def q610 : Tr := .node q58 .no q0 .no .no
def q611 : Tr := .node q58 .no q0 q610 .no
def q612 : Tr := .node q607 q608 .no q609 q611
def q613 : Tr := .node .no q365 q607 .no .no
def q614 : Tr := .node .no .no q608 .no q368
def q615 : Tr := .node .no q6 q607 .no .no
def q616 : Tr := .node q615 .no q609 .no .no
def q617 : Tr := .node q122 .no .no .no .no
def q618 : Tr := .node q122 q611 .no q617 .no
def q619 : Tr := .node q613 q614 q612 q616 q618
def q620 : Tr := .node .no .no .no .no q371
def q621 : Tr := .node .no .no q620 .no q373
def q622 : Tr := .node q283 .no .no q609 .no
def q623 : Tr := .node q122 .no .no q617 .no
def q624 : Tr := .node .no q620 q622 q616 q623
def q625 : Tr := .node .no q623 .no .no .no
def q626 : Tr := .node .no q621 q624 .no q625
def q627 : Tr := .node q612 q619 q626 .no .no
def q628 : Tr := .node .no .no .no .no q23
def q629 : Tr := .node q54 .no .no .no .no
def q630 : Tr := .node q54 .no .no q629 .no
def q631 : Tr := .node .no q628 .no q284 q630
def q632 : Tr := .node .no .no q628 .no q378
def q633 : Tr := .node .no q16 q283 .no .no
def q634 : Tr := .node q633 .no q284 .no .no
def q635 : Tr := .node q137 .no .no .no .no
def q636 : Tr := .node q137 q630 .no q635 .no
def q637 : Tr := .node .no q632 q631 q634 q636
def q638 : Tr := .node .no .no .no .no q39
def q639 : Tr := .node .no .no q638 .no q45
def q640 : Tr := .node .no .no .no q284 .no
def q641 : Tr := .node q137 .no .no q635 .no
def q642 : Tr := .node .no q638 q640 q634 q641
def q643 : Tr := .node .no q641 .no .no .no
def q644 : Tr := .node .no q639 q642 .no q643
def q645 : Tr := .node q631 q637 q644 .no .no
def q646 : Tr := .node q627 q645 .no .no .no
def q647 : Tr := .node q607 q613 .no .no .no
def q648 : Tr := .node q647 .no .no .no .no
def q649 : Tr := .node q646 q648 .no .no .no
def q650 : Tr := .node .no q628 .no q284 .no
def q651 : Tr := .node .no .no .no .no q390
def q652 : Tr := .node q650 .no .no .no .no
def q653 : Tr := .node q83 .no q22 .no .no
def q654 : Tr := .node q83 .no q22 q653 .no
def q655 : Tr := .node q650 q651 .no q652 q654
def q656 : Tr := .node .no .no q628 .no q30
def q657 : Tr := .node .no q656 q650 .no .no
def q658 : Tr := .node .no .no q651 .no q396
def q659 : Tr := .node .no .no q628 .no q28
def q660 : Tr := .node .no q659 q650 .no .no
def q661 : Tr := .node q660 .no q652 .no .no
def q662 : Tr := .node q163 .no .no .no .no
def q663 : Tr := .node q163 q654 .no q662 .no
def q664 : Tr := .node q657 q658 q655 q661 q663
def q665 : Tr := .node .no .no .no .no q400
def q666 : Tr := .node .no .no q665 .no q402
def q667 : Tr := .node .no .no .no .no q22
def q668 : Tr := .node .no q667 .no q284 .no
def q669 : Tr := .node q668 .no .no q652 .no
def q670 : Tr := .node q163 .no .no q662 .no
def q671 : Tr := .node .no q665 q669 q661 q670
def q672 : Tr := .node .no q670 .no .no .no
def q673 : Tr := .node .no q666 q671 .no q672
def q674 : Tr := .node q655 q664 q673 .no .no
def q675 : Tr := .node q674 .no .no .no .no
def q676 : Tr := .node q675 .no .no .no .no
def q677 : Tr := .node .no q638 q640 q634 .no
def q678 : Tr := .node .no .no .no .no q409
def q679 : Tr := .node q677 .no q284 .no .no
def q680 : Tr := .node q99 .no q38 .no .no
def q681 : Tr := .node q99 .no q38 q680 .no
def q682 : Tr := .node q677 q678 q284 q679 q681
def q683 : Tr := .node .no q639 q677 .no .no
def q684 : Tr := .node .no .no q678 .no q414
def q685 : Tr := .node .no .no q638 .no q43
def q686 : Tr := .node .no q685 q677 .no .no
def q687 : Tr := .node q686 .no q679 .no .no
def q688 : Tr := .node q190 .no .no .no .no
def q689 : Tr := .node q190 q681 .no q688 .no
def q690 : Tr := .node q683 q684 q682 q687 q689
def q691 : Tr := .node .no .no .no .no q418
def q692 : Tr := .node .no .no q691 .no q420
def q693 : Tr := .node .no .no .no .no q38
def q694 : Tr := .node .no q693 q640 q634 .no
def q695 : Tr := .node q694 .no q284 q679 .no
def q696 : Tr := .node q190 .no .no q688 .no
def q697 : Tr := .node .no q691 q695 q687 q696
def q698 : Tr := .node .no q696 .no .no .no
def q699 : Tr := .node .no q692 q697 .no q698
def q700 : Tr := .node q682 q690 q699 .no .no
def q701 : Tr := .node q700 .no .no .no .no
def q702 : Tr := .node q701 .no .no .no .no
def q703 : Tr := .node q649 q676 q702 .no .no
def q704 : Tr := .node .no q56 .no .no .no
def q705 : Tr := .node q283 .no .no q609 q428
def q706 : Tr := .node q704 .no .no .no .no
def q707 : Tr := .node q115 .no q610 .no .no
def q708 : Tr := .node q115 .no q611 q707 .no
def q709 : Tr := .node q704 q705 .no q706 q708
def q710 : Tr := .node .no q430 q704 .no .no
def q711 : Tr := .node .no .no q705 q616 q435
def q712 : Tr := .node .no q60 q704 .no .no
def q713 : Tr := .node q712 .no q706 .no .no
def q714 : Tr := .node .no .no q611 q707 .no
def q715 : Tr := .node q123 .no q617 .no .no
def q716 : Tr := .node q123 q714 q618 q715 .no
def q717 : Tr := .node q710 q711 q709 q713 q716
def q718 : Tr := .node .no .no q622 q616 q439
def q719 : Tr := .node .no .no q718 .no q442
def q720 : Tr := .node q282 .no .no q706 .no
def q721 : Tr := .node q123 .no q623 q715 .no
def q722 : Tr := .node .no q718 q720 q713 q721
def q723 : Tr := .node .no .no q623 q715 .no
def q724 : Tr := .node .no q723 q625 .no .no
def q725 : Tr := .node .no q719 q722 .no q724
def q726 : Tr := .node q709 q717 q725 .no .no
def q727 : Tr := .node .no .no .no q284 q79
def q728 : Tr := .node q133 .no q629 .no .no
def q729 : Tr := .node q133 .no q630 q728 .no
def q730 : Tr := .node .no q727 .no q286 q729
def q731 : Tr := .node .no .no q727 q634 q449
def q732 : Tr := .node .no q70 q282 .no .no
def q733 : Tr := .node q732 .no q286 .no .no
def q734 : Tr := .node .no .no q630 q728 .no
def q735 : Tr := .node q138 .no q635 .no .no
def q736 : Tr := .node q138 q734 q636 q735 .no
def q737 : Tr := .node .no q731 q730 q733 q736
def q738 : Tr := .node .no .no q640 q634 q96
def q739 : Tr := .node .no .no q738 .no q103
def q740 : Tr := .node .no .no .no q286 .no
def q741 : Tr := .node q138 .no q641 q735 .no
def q742 : Tr := .node .no q738 q740 q733 q741
def q743 : Tr := .node .no .no q641 q735 .no
def q744 : Tr := .node .no q743 q643 .no .no
def q745 : Tr := .node .no q739 q742 .no q744
def q746 : Tr := .node q730 q737 q745 .no .no
def q747 : Tr := .node q726 q746 .no .no .no
def q748 : Tr := .node q704 q710 .no .no .no
def q749 : Tr := .node q748 .no .no .no .no
def q750 : Tr := .node q747 q749 .no .no .no
def q751 : Tr := .node .no q727 .no q286 .no
def q752 : Tr := .node q668 .no .no q652 q462
def q753 : Tr := .node q751 .no .no .no .no
def q754 : Tr := .node q153 .no q653 .no .no
def q755 : Tr := .node q153 .no q654 q754 .no
def q756 : Tr := .node q751 q752 .no q753 q755
def q757 : Tr := .node .no .no q727 .no q87
def q758 : Tr := .node .no q757 q751 .no .no
def q759 : Tr := .node .no .no q752 q661 q471
def q760 : Tr := .node .no .no q727 .no q84
def q761 : Tr := .node .no q760 q751 .no .no
def q762 : Tr := .node q761 .no q753 .no .no
def q763 : Tr := .node .no .no q654 q754 .no
def q764 : Tr := .node q164 .no q662 .no .no
def q765 : Tr := .node q164 q763 q663 q764 .no
def q766 : Tr := .node q758 q759 q756 q762 q765
def q767 : Tr := .node .no .no q669 q661 q476
def q768 : Tr := .node .no .no q767 .no q479
def q769 : Tr := .node .no .no .no q284 q78
def q770 : Tr := .node .no q769 .no q286 .no
def q771 : Tr := .node q770 .no .no q753 .no
def q772 : Tr := .node q164 .no q670 q764 .no
def q773 : Tr := .node .no q767 q771 q762 q772
def q774 : Tr := .node .no .no q670 q764 .no
def q775 : Tr := .node .no q774 q672 .no .no
def q776 : Tr := .node .no q768 q773 .no q775
def q777 : Tr := .node q756 q766 q776 .no .no
def q778 : Tr := .node q777 .no .no .no .no
def q779 : Tr := .node q778 .no .no .no .no
def q780 : Tr := .node .no q738 q740 q733 .no
def q781 : Tr := .node q694 .no q284 q679 q486
def q782 : Tr := .node q780 .no q286 .no .no
def q783 : Tr := .node q181 .no q680 .no .no
def q784 : Tr := .node q181 .no q681 q783 .no
def q785 : Tr := .node q780 q781 q286 q782 q784
def q786 : Tr := .node .no q739 q780 .no .no
def q787 : Tr := .node .no .no q781 q687 q493
def q788 : Tr := .node .no .no q738 .no q100
def q789 : Tr := .node .no q788 q780 .no .no
def q790 : Tr := .node q789 .no q782 .no .no
def q791 : Tr := .node .no .no q681 q783 .no
def q792 : Tr := .node q191 .no q688 .no .no
def q793 : Tr := .node q191 q791 q689 q792 .no
def q794 : Tr := .node q786 q787 q785 q790 q793
def q795 : Tr := .node .no .no q695 q687 q498
def q796 : Tr := .node .no .no q795 .no q501
def q797 : Tr := .node .no .no q640 q634 q95
def q798 : Tr := .node .no q797 q740 q733 .no
def q799 : Tr := .node q798 .no q286 q782 .no
def q800 : Tr := .node q191 .no q696 q792 .no
def q801 : Tr := .node .no q795 q799 q790 q800
def q802 : Tr := .node .no .no q696 q792 .no
def q803 : Tr := .node .no q802 q698 .no .no
def q804 : Tr := .node .no q796 q801 .no q803
def q805 : Tr := .node q785 q794 q804 .no .no
def q806 : Tr := .node q805 .no .no .no .no
def q807 : Tr := .node q806 .no .no .no .no
def q808 : Tr := .node q750 q779 q807 .no .no
def q809 : Tr := .node .no q507 .no .no .no
def q810 : Tr := .node .no q113 .no .no .no
def q811 : Tr := .node q810 .no .no .no .no
def q812 : Tr := .node .no .no .no q811 q511
def q813 : Tr := .node .no q116 .no .no .no
def q814 : Tr := .node q813 .no .no .no .no
def q815 : Tr := .node .no .no q714 .no .no
def q816 : Tr := .node q809 q812 .no q814 q815
def q817 : Tr := .node .no q513 q809 .no .no
def q818 : Tr := .node .no q120 q810 .no .no
def q819 : Tr := .node q818 .no q811 .no .no
def q820 : Tr := .node .no .no q812 q819 q518
def q821 : Tr := .node .no q124 q813 .no .no
def q822 : Tr := .node q821 .no q814 .no .no
def q823 : Tr := .node .no q714 q623 q715 .no
def q824 : Tr := .node .no q815 q823 .no .no
def q825 : Tr := .node q817 q820 q816 q822 q824
def q826 : Tr := .node .no .no .no q811 .no
def q827 : Tr := .node .no .no q826 q819 q522
def q828 : Tr := .node .no .no q827 .no q525
def q829 : Tr := .node .no .no .no q814 .no
def q830 : Tr := .node .no .no q723 .no .no
def q831 : Tr := .node .no q827 q829 q822 q830
def q832 : Tr := .node .no q723 .no .no .no
def q833 : Tr := .node .no q830 q832 .no .no
def q834 : Tr := .node .no q828 q831 .no q833
def q835 : Tr := .node q816 q825 q834 .no .no
def q836 : Tr := .node .no .no .no q286 q155
def q837 : Tr := .node .no q134 .no .no .no
def q838 : Tr := .node q837 .no .no .no .no
def q839 : Tr := .node .no .no q734 .no .no
def q840 : Tr := .node .no q836 .no q838 q839
def q841 : Tr := .node .no .no q836 q733 q533
def q842 : Tr := .node .no q139 q837 .no .no
def q843 : Tr := .node q842 .no q838 .no .no
def q844 : Tr := .node .no q734 q641 q735 .no
def q845 : Tr := .node .no q839 q844 .no .no
def q846 : Tr := .node .no q841 q840 q843 q845
def q847 : Tr := .node .no .no q740 q733 q183
def q848 : Tr := .node .no .no q847 .no q194
def q849 : Tr := .node .no .no .no q838 .no
def q850 : Tr := .node .no .no q743 .no .no
def q851 : Tr := .node .no q847 q849 q843 q850
def q852 : Tr := .node .no q743 .no .no .no
def q853 : Tr := .node .no q850 q852 .no .no
def q854 : Tr := .node .no q848 q851 .no q853
def q855 : Tr := .node q840 q846 q854 .no .no
def q856 : Tr := .node q835 q855 .no .no .no
def q857 : Tr := .node q809 q817 .no .no .no
def q858 : Tr := .node q857 .no .no .no .no
def q859 : Tr := .node q856 q858 .no .no .no
def q860 : Tr := .node .no q836 .no .no .no
def q861 : Tr := .node .no q640 .no .no .no
def q862 : Tr := .node .no .no .no q284 q150
def q863 : Tr := .node .no q862 .no .no .no
def q864 : Tr := .node q863 .no .no .no .no
def q865 : Tr := .node q861 .no .no q864 q551
def q866 : Tr := .node .no .no .no q286 q153
def q867 : Tr := .node .no q866 .no .no .no
def q868 : Tr := .node q867 .no .no .no .no
def q869 : Tr := .node .no .no q763 .no .no
def q870 : Tr := .node q860 q865 .no q868 q869
def q871 : Tr := .node .no .no q836 .no q167
def q872 : Tr := .node .no q871 q860 .no .no
def q873 : Tr := .node .no .no q862 .no q160
def q874 : Tr := .node .no q873 q863 .no .no
def q875 : Tr := .node q874 .no q864 .no .no
def q876 : Tr := .node .no .no q865 q875 q561
def q877 : Tr := .node .no .no q866 .no q164
def q878 : Tr := .node .no q877 q867 .no .no
def q879 : Tr := .node q878 .no q868 .no .no
def q880 : Tr := .node .no q763 q670 q764 .no
def q881 : Tr := .node .no q869 q880 .no .no
def q882 : Tr := .node q872 q876 q870 q879 q881
def q883 : Tr := .node q861 .no .no q864 .no
def q884 : Tr := .node .no .no q883 q875 q566
def q885 : Tr := .node .no .no q884 .no q569
def q886 : Tr := .node .no q740 .no .no .no
def q887 : Tr := .node q886 .no .no q868 .no
def q888 : Tr := .node .no .no q774 .no .no
def q889 : Tr := .node .no q884 q887 q879 q888
def q890 : Tr := .node .no q774 .no .no .no
def q891 : Tr := .node .no q888 q890 .no .no
def q892 : Tr := .node .no q885 q889 .no q891
def q893 : Tr := .node q870 q882 q892 .no .no
def q894 : Tr := .node q893 .no .no .no .no
def q895 : Tr := .node q894 .no .no .no .no
def q896 : Tr := .node .no q847 .no .no .no
def q897 : Tr := .node .no .no q640 q634 .no
def q898 : Tr := .node .no q897 .no .no .no
def q899 : Tr := .node .no .no q640 q634 q178
def q900 : Tr := .node .no q899 .no .no .no
def q901 : Tr := .node q900 .no .no .no .no
def q902 : Tr := .node q898 .no .no q901 q581
def q903 : Tr := .node .no .no q740 q733 q181
def q904 : Tr := .node .no q903 .no .no .no
def q905 : Tr := .node q904 .no .no .no .no
def q906 : Tr := .node .no .no q791 .no .no
def q907 : Tr := .node q896 q902 .no q905 q906
def q908 : Tr := .node .no q848 q896 .no .no
def q909 : Tr := .node .no .no q899 .no q187
def q910 : Tr := .node .no q909 q900 .no .no
def q911 : Tr := .node q910 .no q901 .no .no
def q912 : Tr := .node .no .no q902 q911 q590
def q913 : Tr := .node .no .no q903 .no q191
def q914 : Tr := .node .no q913 q904 .no .no
def q915 : Tr := .node q914 .no q905 .no .no
def q916 : Tr := .node .no q791 q696 q792 .no
def q917 : Tr := .node .no q906 q916 .no .no
def q918 : Tr := .node q908 q912 q907 q915 q917
def q919 : Tr := .node q898 .no .no q901 .no
def q920 : Tr := .node .no .no q919 q911 q595
def q921 : Tr := .node .no .no q920 .no q598
def q922 : Tr := .node .no .no q740 q733 .no
def q923 : Tr := .node .no q922 .no .no .no
def q924 : Tr := .node q923 .no .no q905 .no
def q925 : Tr := .node .no .no q802 .no .no
def q926 : Tr := .node .no q920 q924 q915 q925
def q927 : Tr := .node .no q802 .no .no .no
def q928 : Tr := .node .no q925 q927 .no .no
def q929 : Tr := .node .no q921 q926 .no q928
def q930 : Tr := .node q907 q918 q929 .no .no
def q931 : Tr := .node q930 .no .no .no .no
def q932 : Tr := .node q931 .no .no .no .no
def q933 : Tr := .node q859 q895 q932 .no .no
def q934 : Tr := .node q703 q808 q933 .no .no
def q935 : Tr := .node q934 .no .no .no .no
def q936 : Tr := .node q935 .no .no .no .no
def q937 : Tr := .node q360 q606 q936 .no .no
def qroot : Tr := q937

/-- Is there such a state. -/
def known (s : St) : Bool := walk qroot (path s)

def calm (s : St) : Bool := match s.p, s.q with
  | [], [] => match s.a, s.b with
    | ⟨.z, false, false, .c0⟩, ⟨.z, false, false, .c0⟩ => true
    | ⟨.z, false, true, .c0⟩, ⟨.z, false, true, .c0⟩ => true
    | ⟨.z, true, false, .c0⟩, ⟨.o, false, false, .c0⟩ => true
    | ⟨.o, false, false, .c0⟩, ⟨.z, true, false, .c0⟩ => true
    | _, _ => false
  | _, _ => true
def low (x : End) : Bool := match x.o with
  | .c3 => false
  | _ => true

def goodS (s : St) : Bool := known (stepF s .up) && (known (stepF s .late) && (known (stepF s .down) && (known (stepF s .deliver) && (known (flipF s) && (calm s && (low s.a && low s.b))))))

def chk (l : List Le) : Bool := match decode (rev l []) with
  | some s => goodS s
  | none => false

theorem and5 {a b c d e : Bool} (h1 : a = true) (h2 : b = true) (h3 : c = true) (h4 : d = true) (h5 : e = true) : (a && (b && (c && (d && e)))) = true := by
  rw [h1, h2, h3, h4, h5]; rfl

theorem c00000000 : allT chk q3 [.l0, .l0, .l0, .l0, .l0, .l0, .l0, .l0] = true := by kernel_rfl
theorem c00000001 : allT chk q8 [.l1, .l0, .l0, .l0, .l0, .l0, .l0, .l0] = true := by kernel_rfl
theorem c00000002 : allT chk q11 [.l2, .l0, .l0, .l0, .l0, .l0, .l0, .l0] = true := by kernel_rfl
theorem c0000000 : allT chk q12 [.l0, .l0, .l0, .l0, .l0, .l0, .l0] = true := and5 c00000000 c00000001 c00000002 rfl rfl
theorem c00000010 : allT chk q14 [.l0, .l1, .l0, .l0, .l0, .l0, .l0, .l0] = true := by kernel_rfl
theorem c00000011 : allT chk q17 [.l1, .l1, .l0, .l0, .l0, .l0, .l0, .l0] = true := by kernel_rfl
theorem c00000012 : allT chk q18 [.l2, .l1, .l0, .l0, .l0, .l0, .l0, .l0] = true := by kernel_rfl
theorem c0000001 : allT chk q19 [.l1, .l0, .l0, .l0, .l0, .l0, .l0] = true := and5 c00000010 c00000011 c00000012 rfl rfl
theorem c000000 : allT chk q20 [.l0, .l0, .l0, .l0, .l0, .l0] = true := and5 c0000000 c0000001 rfl rfl rfl
theorem c00000 : allT chk q21 [.l0, .l0, .l0, .l0, .l0] = true := and5 c000000 rfl rfl rfl rfl
theorem c00001000 : allT chk q25 [.l0, .l0, .l0, .l1, .l0, .l0, .l0, .l0] = true := by kernel_rfl
theorem c00001001 : allT chk q31 [.l1, .l0, .l0, .l1, .l0, .l0, .l0, .l0] = true := by kernel_rfl
theorem c00001002 : allT chk q34 [.l2, .l0, .l0, .l1, .l0, .l0, .l0, .l0] = true := by kernel_rfl
theorem c0000100 : allT chk q35 [.l0, .l0, .l1, .l0, .l0, .l0, .l0] = true := and5 c00001000 c00001001 c00001002 rfl rfl
theorem c000010 : allT chk q36 [.l0, .l1, .l0, .l0, .l0, .l0] = true := and5 c0000100 rfl rfl rfl rfl
theorem c00001 : allT chk q37 [.l1, .l0, .l0, .l0, .l0] = true := and5 c000010 rfl rfl rfl rfl
theorem c00002000 : allT chk q41 [.l0, .l0, .l0, .l2, .l0, .l0, .l0, .l0] = true := by kernel_rfl
theorem c00002001 : allT chk q46 [.l1, .l0, .l0, .l2, .l0, .l0, .l0, .l0] = true := by kernel_rfl
theorem c00002002 : allT chk q49 [.l2, .l0, .l0, .l2, .l0, .l0, .l0, .l0] = true := by kernel_rfl
theorem c0000200 : allT chk q50 [.l0, .l0, .l2, .l0, .l0, .l0, .l0] = true := and5 c00002000 c00002001 c00002002 rfl rfl
theorem c000020 : allT chk q51 [.l0, .l2, .l0, .l0, .l0, .l0] = true := and5 c0000200 rfl rfl rfl rfl
theorem c00002 : allT chk q52 [.l2, .l0, .l0, .l0, .l0] = true := and5 c000020 rfl rfl rfl rfl
theorem c0000 : allT chk q53 [.l0, .l0, .l0, .l0] = true := and5 c00000 c00001 c00002 rfl rfl
theorem c00010000 : allT chk q57 [.l0, .l0, .l0, .l0, .l1, .l0, .l0, .l0] = true := by kernel_rfl
theorem c00010001 : allT chk q62 [.l1, .l0, .l0, .l0, .l1, .l0, .l0, .l0] = true := by kernel_rfl
theorem c00010002 : allT chk q65 [.l2, .l0, .l0, .l0, .l1, .l0, .l0, .l0] = true := by kernel_rfl
theorem c0001000 : allT chk q66 [.l0, .l0, .l0, .l1, .l0, .l0, .l0] = true := and5 c00010000 c00010001 c00010002 rfl rfl
theorem c00010010 : allT chk q68 [.l0, .l1, .l0, .l0, .l1, .l0, .l0, .l0] = true := by kernel_rfl
theorem c00010011 : allT chk q71 [.l1, .l1, .l0, .l0, .l1, .l0, .l0, .l0] = true := by kernel_rfl
theorem c00010012 : allT chk q74 [.l2, .l1, .l0, .l0, .l1, .l0, .l0, .l0] = true := by kernel_rfl
theorem c0001001 : allT chk q75 [.l1, .l0, .l0, .l1, .l0, .l0, .l0] = true := and5 c00010010 c00010011 c00010012 rfl rfl
theorem c000100 : allT chk q76 [.l0, .l0, .l1, .l0, .l0, .l0] = true := and5 c0001000 c0001001 rfl rfl rfl
theorem c00010 : allT chk q77 [.l0, .l1, .l0, .l0, .l0] = true := and5 c000100 rfl rfl rfl rfl
theorem c00011000 : allT chk q81 [.l0, .l0, .l0, .l1, .l1, .l0, .l0, .l0] = true := by kernel_rfl
theorem c00011001 : allT chk q88 [.l1, .l0, .l0, .l1, .l1, .l0, .l0, .l0] = true := by kernel_rfl
theorem c00011002 : allT chk q91 [.l2, .l0, .l0, .l1, .l1, .l0, .l0, .l0] = true := by kernel_rfl
theorem c0001100 : allT chk q92 [.l0, .l0, .l1, .l1, .l0, .l0, .l0] = true := and5 c00011000 c00011001 c00011002 rfl rfl
theorem c000110 : allT chk q93 [.l0, .l1, .l1, .l0, .l0, .l0] = true := and5 c0001100 rfl rfl rfl rfl
theorem c00011 : allT chk q94 [.l1, .l1, .l0, .l0, .l0] = true := and5 c000110 rfl rfl rfl rfl
theorem c00012000 : allT chk q98 [.l0, .l0, .l0, .l2, .l1, .l0, .l0, .l0] = true := by kernel_rfl
theorem c00012001 : allT chk q104 [.l1, .l0, .l0, .l2, .l1, .l0, .l0, .l0] = true := by kernel_rfl
theorem c00012002 : allT chk q107 [.l2, .l0, .l0, .l2, .l1, .l0, .l0, .l0] = true := by kernel_rfl
theorem c0001200 : allT chk q108 [.l0, .l0, .l2, .l1, .l0, .l0, .l0] = true := and5 c00012000 c00012001 c00012002 rfl rfl
theorem c000120 : allT chk q109 [.l0, .l2, .l1, .l0, .l0, .l0] = true := and5 c0001200 rfl rfl rfl rfl
theorem c00012 : allT chk q110 [.l2, .l1, .l0, .l0, .l0] = true := and5 c000120 rfl rfl rfl rfl
theorem c0001 : allT chk q111 [.l1, .l0, .l0, .l0] = true := and5 c00010 c00011 c00012 rfl rfl
theorem c00020000 : allT chk q118 [.l0, .l0, .l0, .l0, .l2, .l0, .l0, .l0] = true := by kernel_rfl
theorem c00020001 : allT chk q127 [.l1, .l0, .l0, .l0, .l2, .l0, .l0, .l0] = true := by kernel_rfl
theorem c00020002 : allT chk q131 [.l2, .l0, .l0, .l0, .l2, .l0, .l0, .l0] = true := by kernel_rfl
theorem c0002000 : allT chk q132 [.l0, .l0, .l0, .l2, .l0, .l0, .l0] = true := and5 c00020000 c00020001 c00020002 rfl rfl
theorem c00020010 : allT chk q135 [.l0, .l1, .l0, .l0, .l2, .l0, .l0, .l0] = true := by kernel_rfl
theorem c00020011 : allT chk q140 [.l1, .l1, .l0, .l0, .l2, .l0, .l0, .l0] = true := by kernel_rfl
theorem c00020012 : allT chk q144 [.l2, .l1, .l0, .l0, .l2, .l0, .l0, .l0] = true := by kernel_rfl
theorem c0002001 : allT chk q145 [.l1, .l0, .l0, .l2, .l0, .l0, .l0] = true := and5 c00020010 c00020011 c00020012 rfl rfl
theorem c000200 : allT chk q146 [.l0, .l0, .l2, .l0, .l0, .l0] = true := and5 c0002000 c0002001 rfl rfl rfl
theorem c00020 : allT chk q147 [.l0, .l2, .l0, .l0, .l0] = true := and5 c000200 rfl rfl rfl rfl
theorem c00021000 : allT chk q156 [.l0, .l0, .l0, .l1, .l2, .l0, .l0, .l0] = true := by kernel_rfl
theorem c00021001 : allT chk q168 [.l1, .l0, .l0, .l1, .l2, .l0, .l0, .l0] = true := by kernel_rfl
theorem c00021002 : allT chk q172 [.l2, .l0, .l0, .l1, .l2, .l0, .l0, .l0] = true := by kernel_rfl
theorem c0002100 : allT chk q173 [.l0, .l0, .l1, .l2, .l0, .l0, .l0] = true := and5 c00021000 c00021001 c00021002 rfl rfl
theorem c000210 : allT chk q174 [.l0, .l1, .l2, .l0, .l0, .l0] = true := and5 c0002100 rfl rfl rfl rfl
theorem c00021 : allT chk q175 [.l1, .l2, .l0, .l0, .l0] = true := and5 c000210 rfl rfl rfl rfl
theorem c00022000 : allT chk q184 [.l0, .l0, .l0, .l2, .l2, .l0, .l0, .l0] = true := by kernel_rfl
theorem c00022001 : allT chk q195 [.l1, .l0, .l0, .l2, .l2, .l0, .l0, .l0] = true := by kernel_rfl
theorem c00022002 : allT chk q199 [.l2, .l0, .l0, .l2, .l2, .l0, .l0, .l0] = true := by kernel_rfl
theorem c0002200 : allT chk q200 [.l0, .l0, .l2, .l2, .l0, .l0, .l0] = true := and5 c00022000 c00022001 c00022002 rfl rfl
theorem c000220 : allT chk q201 [.l0, .l2, .l2, .l0, .l0, .l0] = true := and5 c0002200 rfl rfl rfl rfl
theorem c00022 : allT chk q202 [.l2, .l2, .l0, .l0, .l0] = true := and5 c000220 rfl rfl rfl rfl
theorem c0002 : allT chk q203 [.l2, .l0, .l0, .l0] = true := and5 c00020 c00021 c00022 rfl rfl
theorem c000 : allT chk q204 [.l0, .l0, .l0] = true := and5 c0000 c0001 c0002 rfl rfl
theorem c00100000 : allT chk q205 [.l0, .l0, .l0, .l0, .l0, .l1, .l0, .l0] = true := by kernel_rfl
theorem c00100001 : allT chk q206 [.l1, .l0, .l0, .l0, .l0, .l1, .l0, .l0] = true := by kernel_rfl
theorem c00100002 : allT chk q207 [.l2, .l0, .l0, .l0, .l0, .l1, .l0, .l0] = true := by kernel_rfl
theorem c0010000 : allT chk q208 [.l0, .l0, .l0, .l0, .l1, .l0, .l0] = true := and5 c00100000 c00100001 c00100002 rfl rfl
theorem c00100010 : allT chk q13 [.l0, .l1, .l0, .l0, .l0, .l1, .l0, .l0] = true := by kernel_rfl
theorem c00100011 : allT chk q16 [.l1, .l1, .l0, .l0, .l0, .l1, .l0, .l0] = true := by kernel_rfl
theorem c00100012 : allT chk q209 [.l2, .l1, .l0, .l0, .l0, .l1, .l0, .l0] = true := by kernel_rfl
theorem c0010001 : allT chk q210 [.l1, .l0, .l0, .l0, .l1, .l0, .l0] = true := and5 c00100010 c00100011 c00100012 rfl rfl
theorem c001000 : allT chk q211 [.l0, .l0, .l0, .l1, .l0, .l0] = true := and5 c0010000 c0010001 rfl rfl rfl
theorem c00100 : allT chk q212 [.l0, .l0, .l1, .l0, .l0] = true := and5 c001000 rfl rfl rfl rfl
theorem c00101000 : allT chk q214 [.l0, .l0, .l0, .l1, .l0, .l1, .l0, .l0] = true := by kernel_rfl
theorem c00101001 : allT chk q217 [.l1, .l0, .l0, .l1, .l0, .l1, .l0, .l0] = true := by kernel_rfl
theorem c00101002 : allT chk q219 [.l2, .l0, .l0, .l1, .l0, .l1, .l0, .l0] = true := by kernel_rfl
theorem c0010100 : allT chk q220 [.l0, .l0, .l1, .l0, .l1, .l0, .l0] = true := and5 c00101000 c00101001 c00101002 rfl rfl
theorem c001010 : allT chk q221 [.l0, .l1, .l0, .l1, .l0, .l0] = true := and5 c0010100 rfl rfl rfl rfl
theorem c00101 : allT chk q222 [.l1, .l0, .l1, .l0, .l0] = true := and5 c001010 rfl rfl rfl rfl
theorem c00102000 : allT chk q224 [.l0, .l0, .l0, .l2, .l0, .l1, .l0, .l0] = true := by kernel_rfl
theorem c00102001 : allT chk q226 [.l1, .l0, .l0, .l2, .l0, .l1, .l0, .l0] = true := by kernel_rfl
theorem c00102002 : allT chk q228 [.l2, .l0, .l0, .l2, .l0, .l1, .l0, .l0] = true := by kernel_rfl
theorem c0010200 : allT chk q229 [.l0, .l0, .l2, .l0, .l1, .l0, .l0] = true := and5 c00102000 c00102001 c00102002 rfl rfl
theorem c001020 : allT chk q230 [.l0, .l2, .l0, .l1, .l0, .l0] = true := and5 c0010200 rfl rfl rfl rfl
theorem c00102 : allT chk q231 [.l2, .l0, .l1, .l0, .l0] = true := and5 c001020 rfl rfl rfl rfl
theorem c0010 : allT chk q232 [.l0, .l1, .l0, .l0] = true := and5 c00100 c00101 c00102 rfl rfl
theorem c00110000 : allT chk q233 [.l0, .l0, .l0, .l0, .l1, .l1, .l0, .l0] = true := by kernel_rfl
theorem c00110001 : allT chk q234 [.l1, .l0, .l0, .l0, .l1, .l1, .l0, .l0] = true := by kernel_rfl
theorem c00110002 : allT chk q237 [.l2, .l0, .l0, .l0, .l1, .l1, .l0, .l0] = true := by kernel_rfl
theorem c0011000 : allT chk q238 [.l0, .l0, .l0, .l1, .l1, .l0, .l0] = true := and5 c00110000 c00110001 c00110002 rfl rfl
theorem c00110010 : allT chk q239 [.l0, .l1, .l0, .l0, .l1, .l1, .l0, .l0] = true := by kernel_rfl
theorem c00110011 : allT chk q240 [.l1, .l1, .l0, .l0, .l1, .l1, .l0, .l0] = true := by kernel_rfl
theorem c00110012 : allT chk q242 [.l2, .l1, .l0, .l0, .l1, .l1, .l0, .l0] = true := by kernel_rfl
theorem c0011001 : allT chk q243 [.l1, .l0, .l0, .l1, .l1, .l0, .l0] = true := and5 c00110010 c00110011 c00110012 rfl rfl
theorem c001100 : allT chk q244 [.l0, .l0, .l1, .l1, .l0, .l0] = true := and5 c0011000 c0011001 rfl rfl rfl
theorem c00110 : allT chk q245 [.l0, .l1, .l1, .l0, .l0] = true := and5 c001100 rfl rfl rfl rfl
theorem c00111000 : allT chk q247 [.l0, .l0, .l0, .l1, .l1, .l1, .l0, .l0] = true := by kernel_rfl
theorem c00111001 : allT chk q250 [.l1, .l0, .l0, .l1, .l1, .l1, .l0, .l0] = true := by kernel_rfl
theorem c00111002 : allT chk q253 [.l2, .l0, .l0, .l1, .l1, .l1, .l0, .l0] = true := by kernel_rfl
theorem c0011100 : allT chk q254 [.l0, .l0, .l1, .l1, .l1, .l0, .l0] = true := and5 c00111000 c00111001 c00111002 rfl rfl
theorem c001110 : allT chk q255 [.l0, .l1, .l1, .l1, .l0, .l0] = true := and5 c0011100 rfl rfl rfl rfl
theorem c00111 : allT chk q256 [.l1, .l1, .l1, .l0, .l0] = true := and5 c001110 rfl rfl rfl rfl
theorem c00112000 : allT chk q258 [.l0, .l0, .l0, .l2, .l1, .l1, .l0, .l0] = true := by kernel_rfl
theorem c00112001 : allT chk q260 [.l1, .l0, .l0, .l2, .l1, .l1, .l0, .l0] = true := by kernel_rfl
theorem c00112002 : allT chk q263 [.l2, .l0, .l0, .l2, .l1, .l1, .l0, .l0] = true := by kernel_rfl
theorem c0011200 : allT chk q264 [.l0, .l0, .l2, .l1, .l1, .l0, .l0] = true := and5 c00112000 c00112001 c00112002 rfl rfl
theorem c001120 : allT chk q265 [.l0, .l2, .l1, .l1, .l0, .l0] = true := and5 c0011200 rfl rfl rfl rfl
theorem c00112 : allT chk q266 [.l2, .l1, .l1, .l0, .l0] = true := and5 c001120 rfl rfl rfl rfl
theorem c0011 : allT chk q267 [.l1, .l1, .l0, .l0] = true := and5 c00110 c00111 c00112 rfl rfl
theorem c00120000 : allT chk q268 [.l0, .l0, .l0, .l0, .l2, .l1, .l0, .l0] = true := by kernel_rfl
theorem c00120001 : allT chk q269 [.l1, .l0, .l0, .l0, .l2, .l1, .l0, .l0] = true := by kernel_rfl
theorem c00120002 : allT chk q272 [.l2, .l0, .l0, .l0, .l2, .l1, .l0, .l0] = true := by kernel_rfl
theorem c0012000 : allT chk q273 [.l0, .l0, .l0, .l2, .l1, .l0, .l0] = true := and5 c00120000 c00120001 c00120002 rfl rfl
theorem c00120010 : allT chk q274 [.l0, .l1, .l0, .l0, .l2, .l1, .l0, .l0] = true := by kernel_rfl
theorem c00120011 : allT chk q275 [.l1, .l1, .l0, .l0, .l2, .l1, .l0, .l0] = true := by kernel_rfl
theorem c00120012 : allT chk q278 [.l2, .l1, .l0, .l0, .l2, .l1, .l0, .l0] = true := by kernel_rfl
theorem c0012001 : allT chk q279 [.l1, .l0, .l0, .l2, .l1, .l0, .l0] = true := and5 c00120010 c00120011 c00120012 rfl rfl
theorem c001200 : allT chk q280 [.l0, .l0, .l2, .l1, .l0, .l0] = true := and5 c0012000 c0012001 rfl rfl rfl
theorem c00120 : allT chk q281 [.l0, .l2, .l1, .l0, .l0] = true := and5 c001200 rfl rfl rfl rfl
theorem c00121000 : allT chk q287 [.l0, .l0, .l0, .l1, .l2, .l1, .l0, .l0] = true := by kernel_rfl
theorem c00121001 : allT chk q294 [.l1, .l0, .l0, .l1, .l2, .l1, .l0, .l0] = true := by kernel_rfl
theorem c00121002 : allT chk q298 [.l2, .l0, .l0, .l1, .l2, .l1, .l0, .l0] = true := by kernel_rfl
theorem c0012100 : allT chk q299 [.l0, .l0, .l1, .l2, .l1, .l0, .l0] = true := and5 c00121000 c00121001 c00121002 rfl rfl
theorem c001210 : allT chk q300 [.l0, .l1, .l2, .l1, .l0, .l0] = true := and5 c0012100 rfl rfl rfl rfl
theorem c00121 : allT chk q301 [.l1, .l2, .l1, .l0, .l0] = true := and5 c001210 rfl rfl rfl rfl
theorem c00122000 : allT chk q307 [.l0, .l0, .l0, .l2, .l2, .l1, .l0, .l0] = true := by kernel_rfl
theorem c00122001 : allT chk q313 [.l1, .l0, .l0, .l2, .l2, .l1, .l0, .l0] = true := by kernel_rfl
theorem c00122002 : allT chk q317 [.l2, .l0, .l0, .l2, .l2, .l1, .l0, .l0] = true := by kernel_rfl
theorem c0012200 : allT chk q318 [.l0, .l0, .l2, .l2, .l1, .l0, .l0] = true := and5 c00122000 c00122001 c00122002 rfl rfl
theorem c001220 : allT chk q319 [.l0, .l2, .l2, .l1, .l0, .l0] = true := and5 c0012200 rfl rfl rfl rfl
theorem c00122 : allT chk q320 [.l2, .l2, .l1, .l0, .l0] = true := and5 c001220 rfl rfl rfl rfl
theorem c0012 : allT chk q321 [.l2, .l1, .l0, .l0] = true := and5 c00120 c00121 c00122 rfl rfl
theorem c001 : allT chk q322 [.l1, .l0, .l0] = true := and5 c0010 c0011 c0012 rfl rfl
theorem c00 : allT chk q323 [.l0, .l0] = true := and5 c000 c001 rfl rfl rfl
theorem c01001000 : allT chk q324 [.l0, .l0, .l0, .l1, .l0, .l0, .l1, .l0] = true := by kernel_rfl
theorem c01001001 : allT chk q325 [.l1, .l0, .l0, .l1, .l0, .l0, .l1, .l0] = true := by kernel_rfl
theorem c01001002 : allT chk q326 [.l2, .l0, .l0, .l1, .l0, .l0, .l1, .l0] = true := by kernel_rfl
theorem c0100100 : allT chk q327 [.l0, .l0, .l1, .l0, .l0, .l1, .l0] = true := and5 c01001000 c01001001 c01001002 rfl rfl
theorem c010010 : allT chk q328 [.l0, .l1, .l0, .l0, .l1, .l0] = true := and5 c0100100 rfl rfl rfl rfl
theorem c01001 : allT chk q329 [.l1, .l0, .l0, .l1, .l0] = true := and5 c010010 rfl rfl rfl rfl
theorem c01002000 : allT chk q331 [.l0, .l0, .l0, .l2, .l0, .l0, .l1, .l0] = true := by kernel_rfl
theorem c01002001 : allT chk q333 [.l1, .l0, .l0, .l2, .l0, .l0, .l1, .l0] = true := by kernel_rfl
theorem c01002002 : allT chk q334 [.l2, .l0, .l0, .l2, .l0, .l0, .l1, .l0] = true := by kernel_rfl
theorem c0100200 : allT chk q335 [.l0, .l0, .l2, .l0, .l0, .l1, .l0] = true := and5 c01002000 c01002001 c01002002 rfl rfl
theorem c010020 : allT chk q336 [.l0, .l2, .l0, .l0, .l1, .l0] = true := and5 c0100200 rfl rfl rfl rfl
theorem c01002 : allT chk q337 [.l2, .l0, .l0, .l1, .l0] = true := and5 c010020 rfl rfl rfl rfl
theorem c0100 : allT chk q338 [.l0, .l0, .l1, .l0] = true := and5 rfl c01001 c01002 rfl rfl
theorem c01011000 : allT chk q339 [.l0, .l0, .l0, .l1, .l1, .l0, .l1, .l0] = true := by kernel_rfl
theorem c01011001 : allT chk q340 [.l1, .l0, .l0, .l1, .l1, .l0, .l1, .l0] = true := by kernel_rfl
theorem c01011002 : allT chk q343 [.l2, .l0, .l0, .l1, .l1, .l0, .l1, .l0] = true := by kernel_rfl
theorem c0101100 : allT chk q344 [.l0, .l0, .l1, .l1, .l0, .l1, .l0] = true := and5 c01011000 c01011001 c01011002 rfl rfl
theorem c010110 : allT chk q345 [.l0, .l1, .l1, .l0, .l1, .l0] = true := and5 c0101100 rfl rfl rfl rfl
theorem c01011 : allT chk q346 [.l1, .l1, .l0, .l1, .l0] = true := and5 c010110 rfl rfl rfl rfl
theorem c01012000 : allT chk q348 [.l0, .l0, .l0, .l2, .l1, .l0, .l1, .l0] = true := by kernel_rfl
theorem c01012001 : allT chk q350 [.l1, .l0, .l0, .l2, .l1, .l0, .l1, .l0] = true := by kernel_rfl
theorem c01012002 : allT chk q353 [.l2, .l0, .l0, .l2, .l1, .l0, .l1, .l0] = true := by kernel_rfl
theorem c0101200 : allT chk q354 [.l0, .l0, .l2, .l1, .l0, .l1, .l0] = true := and5 c01012000 c01012001 c01012002 rfl rfl
theorem c010120 : allT chk q355 [.l0, .l2, .l1, .l0, .l1, .l0] = true := and5 c0101200 rfl rfl rfl rfl
theorem c01012 : allT chk q356 [.l2, .l1, .l0, .l1, .l0] = true := and5 c010120 rfl rfl rfl rfl
theorem c0101 : allT chk q357 [.l1, .l0, .l1, .l0] = true := and5 rfl c01011 c01012 rfl rfl
theorem c010 : allT chk q358 [.l0, .l1, .l0] = true := and5 c0100 c0101 rfl rfl rfl
theorem c01 : allT chk q359 [.l1, .l0] = true := and5 c010 rfl rfl rfl rfl
theorem c0 : allT chk q360 [.l0] = true := and5 c00 c01 rfl rfl rfl
theorem c10000000 : allT chk q364 [.l0, .l0, .l0, .l0, .l0, .l0, .l0, .l1] = true := by kernel_rfl
theorem c10000001 : allT chk q369 [.l1, .l0, .l0, .l0, .l0, .l0, .l0, .l1] = true := by kernel_rfl
theorem c10000002 : allT chk q374 [.l2, .l0, .l0, .l0, .l0, .l0, .l0, .l1] = true := by kernel_rfl
theorem c1000000 : allT chk q375 [.l0, .l0, .l0, .l0, .l0, .l0, .l1] = true := and5 c10000000 c10000001 c10000002 rfl rfl
theorem c10000010 : allT chk q376 [.l0, .l1, .l0, .l0, .l0, .l0, .l0, .l1] = true := by kernel_rfl
theorem c10000011 : allT chk q379 [.l1, .l1, .l0, .l0, .l0, .l0, .l0, .l1] = true := by kernel_rfl
theorem c10000012 : allT chk q382 [.l2, .l1, .l0, .l0, .l0, .l0, .l0, .l1] = true := by kernel_rfl
theorem c1000001 : allT chk q383 [.l1, .l0, .l0, .l0, .l0, .l0, .l1] = true := and5 c10000010 c10000011 c10000012 rfl rfl
theorem c100000 : allT chk q384 [.l0, .l0, .l0, .l0, .l0, .l1] = true := and5 c1000000 c1000001 rfl rfl rfl
theorem c10000100 : allT chk q2 [.l0, .l0, .l1, .l0, .l0, .l0, .l0, .l1] = true := by kernel_rfl
theorem c10000101 : allT chk q365 [.l1, .l0, .l1, .l0, .l0, .l0, .l0, .l1] = true := by kernel_rfl
theorem c1000010 : allT chk q385 [.l0, .l1, .l0, .l0, .l0, .l0, .l1] = true := and5 c10000100 c10000101 rfl rfl rfl
theorem c100001 : allT chk q386 [.l1, .l0, .l0, .l0, .l0, .l1] = true := and5 c1000010 rfl rfl rfl rfl
theorem c10000 : allT chk q387 [.l0, .l0, .l0, .l0, .l1] = true := and5 c100000 c100001 rfl rfl rfl
theorem c10001000 : allT chk q391 [.l0, .l0, .l0, .l1, .l0, .l0, .l0, .l1] = true := by kernel_rfl
theorem c10001001 : allT chk q397 [.l1, .l0, .l0, .l1, .l0, .l0, .l0, .l1] = true := by kernel_rfl
theorem c10001002 : allT chk q403 [.l2, .l0, .l0, .l1, .l0, .l0, .l0, .l1] = true := by kernel_rfl
theorem c1000100 : allT chk q404 [.l0, .l0, .l1, .l0, .l0, .l0, .l1] = true := and5 c10001000 c10001001 c10001002 rfl rfl
theorem c100010 : allT chk q405 [.l0, .l1, .l0, .l0, .l0, .l1] = true := and5 c1000100 rfl rfl rfl rfl
theorem c10001 : allT chk q406 [.l1, .l0, .l0, .l0, .l1] = true := and5 c100010 rfl rfl rfl rfl
theorem c10002000 : allT chk q410 [.l0, .l0, .l0, .l2, .l0, .l0, .l0, .l1] = true := by kernel_rfl
theorem c10002001 : allT chk q415 [.l1, .l0, .l0, .l2, .l0, .l0, .l0, .l1] = true := by kernel_rfl
theorem c10002002 : allT chk q421 [.l2, .l0, .l0, .l2, .l0, .l0, .l0, .l1] = true := by kernel_rfl
theorem c1000200 : allT chk q422 [.l0, .l0, .l2, .l0, .l0, .l0, .l1] = true := and5 c10002000 c10002001 c10002002 rfl rfl
theorem c100020 : allT chk q423 [.l0, .l2, .l0, .l0, .l0, .l1] = true := and5 c1000200 rfl rfl rfl rfl
theorem c10002 : allT chk q424 [.l2, .l0, .l0, .l0, .l1] = true := and5 c100020 rfl rfl rfl rfl
theorem c1000 : allT chk q425 [.l0, .l0, .l0, .l1] = true := and5 c10000 c10001 c10002 rfl rfl
theorem c10010000 : allT chk q429 [.l0, .l0, .l0, .l0, .l1, .l0, .l0, .l1] = true := by kernel_rfl
theorem c10010001 : allT chk q436 [.l1, .l0, .l0, .l0, .l1, .l0, .l0, .l1] = true := by kernel_rfl
theorem c10010002 : allT chk q443 [.l2, .l0, .l0, .l0, .l1, .l0, .l0, .l1] = true := by kernel_rfl
theorem c1001000 : allT chk q444 [.l0, .l0, .l0, .l1, .l0, .l0, .l1] = true := and5 c10010000 c10010001 c10010002 rfl rfl
theorem c10010010 : allT chk q446 [.l0, .l1, .l0, .l0, .l1, .l0, .l0, .l1] = true := by kernel_rfl
theorem c10010011 : allT chk q450 [.l1, .l1, .l0, .l0, .l1, .l0, .l0, .l1] = true := by kernel_rfl
theorem c10010012 : allT chk q454 [.l2, .l1, .l0, .l0, .l1, .l0, .l0, .l1] = true := by kernel_rfl
theorem c1001001 : allT chk q455 [.l1, .l0, .l0, .l1, .l0, .l0, .l1] = true := and5 c10010010 c10010011 c10010012 rfl rfl
theorem c100100 : allT chk q456 [.l0, .l0, .l1, .l0, .l0, .l1] = true := and5 c1001000 c1001001 rfl rfl rfl
theorem c10010100 : allT chk q56 [.l0, .l0, .l1, .l0, .l1, .l0, .l0, .l1] = true := by kernel_rfl
theorem c10010101 : allT chk q430 [.l1, .l0, .l1, .l0, .l1, .l0, .l0, .l1] = true := by kernel_rfl
theorem c1001010 : allT chk q457 [.l0, .l1, .l0, .l1, .l0, .l0, .l1] = true := and5 c10010100 c10010101 rfl rfl rfl
theorem c100101 : allT chk q458 [.l1, .l0, .l1, .l0, .l0, .l1] = true := and5 c1001010 rfl rfl rfl rfl
theorem c10010 : allT chk q459 [.l0, .l1, .l0, .l0, .l1] = true := and5 c100100 c100101 rfl rfl rfl
theorem c10011000 : allT chk q463 [.l0, .l0, .l0, .l1, .l1, .l0, .l0, .l1] = true := by kernel_rfl
theorem c10011001 : allT chk q472 [.l1, .l0, .l0, .l1, .l1, .l0, .l0, .l1] = true := by kernel_rfl
theorem c10011002 : allT chk q480 [.l2, .l0, .l0, .l1, .l1, .l0, .l0, .l1] = true := by kernel_rfl
theorem c1001100 : allT chk q481 [.l0, .l0, .l1, .l1, .l0, .l0, .l1] = true := and5 c10011000 c10011001 c10011002 rfl rfl
theorem c100110 : allT chk q482 [.l0, .l1, .l1, .l0, .l0, .l1] = true := and5 c1001100 rfl rfl rfl rfl
theorem c10011 : allT chk q483 [.l1, .l1, .l0, .l0, .l1] = true := and5 c100110 rfl rfl rfl rfl
theorem c10012000 : allT chk q487 [.l0, .l0, .l0, .l2, .l1, .l0, .l0, .l1] = true := by kernel_rfl
theorem c10012001 : allT chk q494 [.l1, .l0, .l0, .l2, .l1, .l0, .l0, .l1] = true := by kernel_rfl
theorem c10012002 : allT chk q502 [.l2, .l0, .l0, .l2, .l1, .l0, .l0, .l1] = true := by kernel_rfl
theorem c1001200 : allT chk q503 [.l0, .l0, .l2, .l1, .l0, .l0, .l1] = true := and5 c10012000 c10012001 c10012002 rfl rfl
theorem c100120 : allT chk q504 [.l0, .l2, .l1, .l0, .l0, .l1] = true := and5 c1001200 rfl rfl rfl rfl
theorem c10012 : allT chk q505 [.l2, .l1, .l0, .l0, .l1] = true := and5 c100120 rfl rfl rfl rfl
theorem c1001 : allT chk q506 [.l1, .l0, .l0, .l1] = true := and5 c10010 c10011 c10012 rfl rfl
theorem c10020000 : allT chk q512 [.l0, .l0, .l0, .l0, .l2, .l0, .l0, .l1] = true := by kernel_rfl
theorem c10020001 : allT chk q519 [.l1, .l0, .l0, .l0, .l2, .l0, .l0, .l1] = true := by kernel_rfl
theorem c10020002 : allT chk q526 [.l2, .l0, .l0, .l0, .l2, .l0, .l0, .l1] = true := by kernel_rfl
theorem c1002000 : allT chk q527 [.l0, .l0, .l0, .l2, .l0, .l0, .l1] = true := and5 c10020000 c10020001 c10020002 rfl rfl
theorem c10020010 : allT chk q529 [.l0, .l1, .l0, .l0, .l2, .l0, .l0, .l1] = true := by kernel_rfl
theorem c10020011 : allT chk q534 [.l1, .l1, .l0, .l0, .l2, .l0, .l0, .l1] = true := by kernel_rfl
theorem c10020012 : allT chk q538 [.l2, .l1, .l0, .l0, .l2, .l0, .l0, .l1] = true := by kernel_rfl
theorem c1002001 : allT chk q539 [.l1, .l0, .l0, .l2, .l0, .l0, .l1] = true := and5 c10020010 c10020011 c10020012 rfl rfl
theorem c100200 : allT chk q540 [.l0, .l0, .l2, .l0, .l0, .l1] = true := and5 c1002000 c1002001 rfl rfl rfl
theorem c10020100 : allT chk q507 [.l0, .l0, .l1, .l0, .l2, .l0, .l0, .l1] = true := by kernel_rfl
theorem c10020101 : allT chk q513 [.l1, .l0, .l1, .l0, .l2, .l0, .l0, .l1] = true := by kernel_rfl
theorem c1002010 : allT chk q541 [.l0, .l1, .l0, .l2, .l0, .l0, .l1] = true := and5 c10020100 c10020101 rfl rfl rfl
theorem c100201 : allT chk q542 [.l1, .l0, .l2, .l0, .l0, .l1] = true := and5 c1002010 rfl rfl rfl rfl
theorem c10020 : allT chk q543 [.l0, .l2, .l0, .l0, .l1] = true := and5 c100200 c100201 rfl rfl rfl
theorem c10021000 : allT chk q552 [.l0, .l0, .l0, .l1, .l2, .l0, .l0, .l1] = true := by kernel_rfl
theorem c10021001 : allT chk q562 [.l1, .l0, .l0, .l1, .l2, .l0, .l0, .l1] = true := by kernel_rfl
theorem c10021002 : allT chk q570 [.l2, .l0, .l0, .l1, .l2, .l0, .l0, .l1] = true := by kernel_rfl
theorem c1002100 : allT chk q571 [.l0, .l0, .l1, .l2, .l0, .l0, .l1] = true := and5 c10021000 c10021001 c10021002 rfl rfl
theorem c100210 : allT chk q572 [.l0, .l1, .l2, .l0, .l0, .l1] = true := and5 c1002100 rfl rfl rfl rfl
theorem c10021 : allT chk q573 [.l1, .l2, .l0, .l0, .l1] = true := and5 c100210 rfl rfl rfl rfl
theorem c10022000 : allT chk q582 [.l0, .l0, .l0, .l2, .l2, .l0, .l0, .l1] = true := by kernel_rfl
theorem c10022001 : allT chk q591 [.l1, .l0, .l0, .l2, .l2, .l0, .l0, .l1] = true := by kernel_rfl
theorem c10022002 : allT chk q599 [.l2, .l0, .l0, .l2, .l2, .l0, .l0, .l1] = true := by kernel_rfl
theorem c1002200 : allT chk q600 [.l0, .l0, .l2, .l2, .l0, .l0, .l1] = true := and5 c10022000 c10022001 c10022002 rfl rfl
theorem c100220 : allT chk q601 [.l0, .l2, .l2, .l0, .l0, .l1] = true := and5 c1002200 rfl rfl rfl rfl
theorem c10022 : allT chk q602 [.l2, .l2, .l0, .l0, .l1] = true := and5 c100220 rfl rfl rfl rfl
theorem c1002 : allT chk q603 [.l2, .l0, .l0, .l1] = true := and5 c10020 c10021 c10022 rfl rfl
theorem c100 : allT chk q604 [.l0, .l0, .l1] = true := and5 c1000 c1001 c1002 rfl rfl
theorem c10 : allT chk q605 [.l0, .l1] = true := and5 c100 rfl rfl rfl rfl
theorem c1 : allT chk q606 [.l1] = true := and5 c10 rfl rfl rfl rfl
theorem c20000000 : allT chk q612 [.l0, .l0, .l0, .l0, .l0, .l0, .l0, .l2] = true := by kernel_rfl
theorem c20000001 : allT chk q619 [.l1, .l0, .l0, .l0, .l0, .l0, .l0, .l2] = true := by kernel_rfl
theorem c20000002 : allT chk q626 [.l2, .l0, .l0, .l0, .l0, .l0, .l0, .l2] = true := by kernel_rfl
theorem c2000000 : allT chk q627 [.l0, .l0, .l0, .l0, .l0, .l0, .l2] = true := and5 c20000000 c20000001 c20000002 rfl rfl
theorem c20000010 : allT chk q631 [.l0, .l1, .l0, .l0, .l0, .l0, .l0, .l2] = true := by kernel_rfl
theorem c20000011 : allT chk q637 [.l1, .l1, .l0, .l0, .l0, .l0, .l0, .l2] = true := by kernel_rfl
theorem c20000012 : allT chk q644 [.l2, .l1, .l0, .l0, .l0, .l0, .l0, .l2] = true := by kernel_rfl
theorem c2000001 : allT chk q645 [.l1, .l0, .l0, .l0, .l0, .l0, .l2] = true := and5 c20000010 c20000011 c20000012 rfl rfl
theorem c200000 : allT chk q646 [.l0, .l0, .l0, .l0, .l0, .l2] = true := and5 c2000000 c2000001 rfl rfl rfl
theorem c20000100 : allT chk q607 [.l0, .l0, .l1, .l0, .l0, .l0, .l0, .l2] = true := by kernel_rfl
theorem c20000101 : allT chk q613 [.l1, .l0, .l1, .l0, .l0, .l0, .l0, .l2] = true := by kernel_rfl
theorem c2000010 : allT chk q647 [.l0, .l1, .l0, .l0, .l0, .l0, .l2] = true := and5 c20000100 c20000101 rfl rfl rfl
theorem c200001 : allT chk q648 [.l1, .l0, .l0, .l0, .l0, .l2] = true := and5 c2000010 rfl rfl rfl rfl
theorem c20000 : allT chk q649 [.l0, .l0, .l0, .l0, .l2] = true := and5 c200000 c200001 rfl rfl rfl
theorem c20001000 : allT chk q655 [.l0, .l0, .l0, .l1, .l0, .l0, .l0, .l2] = true := by kernel_rfl
theorem c20001001 : allT chk q664 [.l1, .l0, .l0, .l1, .l0, .l0, .l0, .l2] = true := by kernel_rfl
theorem c20001002 : allT chk q673 [.l2, .l0, .l0, .l1, .l0, .l0, .l0, .l2] = true := by kernel_rfl
theorem c2000100 : allT chk q674 [.l0, .l0, .l1, .l0, .l0, .l0, .l2] = true := and5 c20001000 c20001001 c20001002 rfl rfl
theorem c200010 : allT chk q675 [.l0, .l1, .l0, .l0, .l0, .l2] = true := and5 c2000100 rfl rfl rfl rfl
theorem c20001 : allT chk q676 [.l1, .l0, .l0, .l0, .l2] = true := and5 c200010 rfl rfl rfl rfl
theorem c20002000 : allT chk q682 [.l0, .l0, .l0, .l2, .l0, .l0, .l0, .l2] = true := by kernel_rfl
theorem c20002001 : allT chk q690 [.l1, .l0, .l0, .l2, .l0, .l0, .l0, .l2] = true := by kernel_rfl
theorem c20002002 : allT chk q699 [.l2, .l0, .l0, .l2, .l0, .l0, .l0, .l2] = true := by kernel_rfl
theorem c2000200 : allT chk q700 [.l0, .l0, .l2, .l0, .l0, .l0, .l2] = true := and5 c20002000 c20002001 c20002002 rfl rfl
theorem c200020 : allT chk q701 [.l0, .l2, .l0, .l0, .l0, .l2] = true := and5 c2000200 rfl rfl rfl rfl
theorem c20002 : allT chk q702 [.l2, .l0, .l0, .l0, .l2] = true := and5 c200020 rfl rfl rfl rfl
theorem c2000 : allT chk q703 [.l0, .l0, .l0, .l2] = true := and5 c20000 c20001 c20002 rfl rfl
theorem c20010000 : allT chk q709 [.l0, .l0, .l0, .l0, .l1, .l0, .l0, .l2] = true := by kernel_rfl
theorem c20010001 : allT chk q717 [.l1, .l0, .l0, .l0, .l1, .l0, .l0, .l2] = true := by kernel_rfl
theorem c20010002 : allT chk q725 [.l2, .l0, .l0, .l0, .l1, .l0, .l0, .l2] = true := by kernel_rfl
theorem c2001000 : allT chk q726 [.l0, .l0, .l0, .l1, .l0, .l0, .l2] = true := and5 c20010000 c20010001 c20010002 rfl rfl
theorem c20010010 : allT chk q730 [.l0, .l1, .l0, .l0, .l1, .l0, .l0, .l2] = true := by kernel_rfl
theorem c20010011 : allT chk q737 [.l1, .l1, .l0, .l0, .l1, .l0, .l0, .l2] = true := by kernel_rfl
theorem c20010012 : allT chk q745 [.l2, .l1, .l0, .l0, .l1, .l0, .l0, .l2] = true := by kernel_rfl
theorem c2001001 : allT chk q746 [.l1, .l0, .l0, .l1, .l0, .l0, .l2] = true := and5 c20010010 c20010011 c20010012 rfl rfl
theorem c200100 : allT chk q747 [.l0, .l0, .l1, .l0, .l0, .l2] = true := and5 c2001000 c2001001 rfl rfl rfl
theorem c20010100 : allT chk q704 [.l0, .l0, .l1, .l0, .l1, .l0, .l0, .l2] = true := by kernel_rfl
theorem c20010101 : allT chk q710 [.l1, .l0, .l1, .l0, .l1, .l0, .l0, .l2] = true := by kernel_rfl
theorem c2001010 : allT chk q748 [.l0, .l1, .l0, .l1, .l0, .l0, .l2] = true := and5 c20010100 c20010101 rfl rfl rfl
theorem c200101 : allT chk q749 [.l1, .l0, .l1, .l0, .l0, .l2] = true := and5 c2001010 rfl rfl rfl rfl
theorem c20010 : allT chk q750 [.l0, .l1, .l0, .l0, .l2] = true := and5 c200100 c200101 rfl rfl rfl
theorem c20011000 : allT chk q756 [.l0, .l0, .l0, .l1, .l1, .l0, .l0, .l2] = true := by kernel_rfl
theorem c20011001 : allT chk q766 [.l1, .l0, .l0, .l1, .l1, .l0, .l0, .l2] = true := by kernel_rfl
theorem c20011002 : allT chk q776 [.l2, .l0, .l0, .l1, .l1, .l0, .l0, .l2] = true := by kernel_rfl
theorem c2001100 : allT chk q777 [.l0, .l0, .l1, .l1, .l0, .l0, .l2] = true := and5 c20011000 c20011001 c20011002 rfl rfl
theorem c200110 : allT chk q778 [.l0, .l1, .l1, .l0, .l0, .l2] = true := and5 c2001100 rfl rfl rfl rfl
theorem c20011 : allT chk q779 [.l1, .l1, .l0, .l0, .l2] = true := and5 c200110 rfl rfl rfl rfl
theorem c20012000 : allT chk q785 [.l0, .l0, .l0, .l2, .l1, .l0, .l0, .l2] = true := by kernel_rfl
theorem c20012001 : allT chk q794 [.l1, .l0, .l0, .l2, .l1, .l0, .l0, .l2] = true := by kernel_rfl
theorem c20012002 : allT chk q804 [.l2, .l0, .l0, .l2, .l1, .l0, .l0, .l2] = true := by kernel_rfl
theorem c2001200 : allT chk q805 [.l0, .l0, .l2, .l1, .l0, .l0, .l2] = true := and5 c20012000 c20012001 c20012002 rfl rfl
theorem c200120 : allT chk q806 [.l0, .l2, .l1, .l0, .l0, .l2] = true := and5 c2001200 rfl rfl rfl rfl
theorem c20012 : allT chk q807 [.l2, .l1, .l0, .l0, .l2] = true := and5 c200120 rfl rfl rfl rfl
theorem c2001 : allT chk q808 [.l1, .l0, .l0, .l2] = true := and5 c20010 c20011 c20012 rfl rfl
theorem c20020000 : allT chk q816 [.l0, .l0, .l0, .l0, .l2, .l0, .l0, .l2] = true := by kernel_rfl
theorem c20020001 : allT chk q825 [.l1, .l0, .l0, .l0, .l2, .l0, .l0, .l2] = true := by kernel_rfl
theorem c20020002 : allT chk q834 [.l2, .l0, .l0, .l0, .l2, .l0, .l0, .l2] = true := by kernel_rfl
theorem c2002000 : allT chk q835 [.l0, .l0, .l0, .l2, .l0, .l0, .l2] = true := and5 c20020000 c20020001 c20020002 rfl rfl
theorem c20020010 : allT chk q840 [.l0, .l1, .l0, .l0, .l2, .l0, .l0, .l2] = true := by kernel_rfl
theorem c20020011 : allT chk q846 [.l1, .l1, .l0, .l0, .l2, .l0, .l0, .l2] = true := by kernel_rfl
theorem c20020012 : allT chk q854 [.l2, .l1, .l0, .l0, .l2, .l0, .l0, .l2] = true := by kernel_rfl
theorem c2002001 : allT chk q855 [.l1, .l0, .l0, .l2, .l0, .l0, .l2] = true := and5 c20020010 c20020011 c20020012 rfl rfl
theorem c200200 : allT chk q856 [.l0, .l0, .l2, .l0, .l0, .l2] = true := and5 c2002000 c2002001 rfl rfl rfl
theorem c20020100 : allT chk q809 [.l0, .l0, .l1, .l0, .l2, .l0, .l0, .l2] = true := by kernel_rfl
theorem c20020101 : allT chk q817 [.l1, .l0, .l1, .l0, .l2, .l0, .l0, .l2] = true := by kernel_rfl
theorem c2002010 : allT chk q857 [.l0, .l1, .l0, .l2, .l0, .l0, .l2] = true := and5 c20020100 c20020101 rfl rfl rfl
theorem c200201 : allT chk q858 [.l1, .l0, .l2, .l0, .l0, .l2] = true := and5 c2002010 rfl rfl rfl rfl
theorem c20020 : allT chk q859 [.l0, .l2, .l0, .l0, .l2] = true := and5 c200200 c200201 rfl rfl rfl
theorem c20021000 : allT chk q870 [.l0, .l0, .l0, .l1, .l2, .l0, .l0, .l2] = true := by kernel_rfl
theorem c20021001 : allT chk q882 [.l1, .l0, .l0, .l1, .l2, .l0, .l0, .l2] = true := by kernel_rfl
theorem c20021002 : allT chk q892 [.l2, .l0, .l0, .l1, .l2, .l0, .l0, .l2] = true := by kernel_rfl
theorem c2002100 : allT chk q893 [.l0, .l0, .l1, .l2, .l0, .l0, .l2] = true := and5 c20021000 c20021001 c20021002 rfl rfl
theorem c200210 : allT chk q894 [.l0, .l1, .l2, .l0, .l0, .l2] = true := and5 c2002100 rfl rfl rfl rfl
theorem c20021 : allT chk q895 [.l1, .l2, .l0, .l0, .l2] = true := and5 c200210 rfl rfl rfl rfl
theorem c20022000 : allT chk q907 [.l0, .l0, .l0, .l2, .l2, .l0, .l0, .l2] = true := by kernel_rfl
theorem c20022001 : allT chk q918 [.l1, .l0, .l0, .l2, .l2, .l0, .l0, .l2] = true := by kernel_rfl
theorem c20022002 : allT chk q929 [.l2, .l0, .l0, .l2, .l2, .l0, .l0, .l2] = true := by kernel_rfl
theorem c2002200 : allT chk q930 [.l0, .l0, .l2, .l2, .l0, .l0, .l2] = true := and5 c20022000 c20022001 c20022002 rfl rfl
theorem c200220 : allT chk q931 [.l0, .l2, .l2, .l0, .l0, .l2] = true := and5 c2002200 rfl rfl rfl rfl
theorem c20022 : allT chk q932 [.l2, .l2, .l0, .l0, .l2] = true := and5 c200220 rfl rfl rfl rfl
theorem c2002 : allT chk q933 [.l2, .l0, .l0, .l2] = true := and5 c20020 c20021 c20022 rfl rfl
theorem c200 : allT chk q934 [.l0, .l0, .l2] = true := and5 c2000 c2001 c2002 rfl rfl
theorem c20 : allT chk q935 [.l0, .l2] = true := and5 c200 rfl rfl rfl rfl
theorem c2 : allT chk q936 [.l2] = true := and5 c20 rfl rfl rfl rfl
theorem c : allT chk q937 [] = true := and5 c0 c1 c2 rfl rfl

theorem closed : allT chk qroot [] = true := c

theorem rev_eq : ∀ (l k : List Le), rev l k = l.reverse ++ k
  | [], k => rfl
  | x :: l, k => by rw [rev, rev_eq l, List.reverse_cons, List.append_assoc]; rfl

theorem known_good {s : St} (h : known s = true) : goodS s = true := by
  have := allT_walk chk qroot [] (path s) closed h
  rw [rev_eq, List.append_nil] at this
  unfold chk at this
  rw [rev_eq, List.reverse_reverse, List.append_nil, decode_path] at this
  exact this

end Go.Proofs.Ytjeeofakogoboaa.F
