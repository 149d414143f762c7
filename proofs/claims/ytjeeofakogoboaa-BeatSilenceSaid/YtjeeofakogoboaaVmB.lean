/- The small machine's steps: what an operation of Go does over plain data, told by a function that Lean reckons out; what it can't see it is told ('Or'), and what it then owes stands in a list of propositions. It states nothing of any program. -/
import Derived.Test.YtjeeofakogoboaaVmA
namespace Go.Vm
set_option linter.unusedVariables false

/-- What the machine is told: which way a test goes; the cells that are read; an index; what a call answers; where a loop comes to. -/
inductive Or where
  | br (b : Bool)
  | cells (cs : List C)
  | idx (i : Nat)
  | call (pick : List Nat) (frz : Bool) (res : D) (hp : List Ob)

abbrev FnP := FuncId → List Ob → List D → D → List Ob → Prop

def litC (v : Value) : C := .sc v
def litV : Value → V
  | .agg cs => .agg (cs.toList.map .sc)
  | v => .one (.sc v)
def litOk : Value → Bool
  | .agg cs => cs.toList.all (·.oneCell')
  | .tuple _ => false
  | _ => true
def lit (v : Value) : D := if litOk v then .v (litV v) else .dead

def V.cells : V → List C
  | .one c => [c]
  | .agg cs => cs

/-- What an operand says, by the slots. -/
def evl (sl : List D) : Operand → D
  | .tmp t => (sl[t]?).getD .dead
  | .const v => lit v
  | .global _ => .dead
  | .func f => .v (.one (.fn f []))

/-- A type: is it a struct or an array; how many cells it has. -/
def tinfo (P : Program) (t : TypeId) : Option (Bool × Nat) :=
  match P.underlying t, P.info? t with
  | some (.struct _), some i => some (true, i.size)
  | some (.array ..), some i => some (true, i.size)
  | some _, some i => some (false, i.size)
  | _, _ => none

def wrapV (agg : Bool) (cs : List C) : Option V :=
  match agg, cs with
  | true, cs => some (.agg cs)
  | false, [c] => some (.one c)
  | _, _ => none

/-- Some cells, from a place on, are others. -/
def splice : List C → Nat → List C → List C
  | cs, 0, new => new ++ cs.drop new.length
  | c :: cs, n + 1, new => c :: splice cs n new
  | [], _ + 1, _ => []

/-- What an operation comes to: the value, what is kept, what is still told, what is owed. -/
abbrev Out := Option (D × List Ob × List Or × List Prop)

def one (c : C) : D := .v (.one c)
def vInt (k : IntKind) (n : Int) : D := one (.sc (.int k n))
def vBool (b : Bool) : D := one (.sc (.bool b))

def binInt (op : BinOp) (k : IntKind) (a b : Int) : Option (D × List Prop) :=
  match op with
  | .add => some (vInt k (k.wrap (a + b)), [])
  | .sub => some (vInt k (k.wrap (a - b)), [])
  | .mul => some (vInt k (k.wrap (a * b)), [])
  | .quo => some (vInt k (k.wrap (a.tdiv b)), [b ≠ 0])
  | .rem => some (vInt k (a.tmod b), [b ≠ 0])
  | .eql => some (vBool (a == b), [])
  | .neq => some (vBool (a != b), [])
  | .lss => some (vBool (decide (a < b)), [])
  | .leq => some (vBool (decide (a ≤ b)), [])
  | .gtr => some (vBool (decide (a > b)), [])
  | .geq => some (vBool (decide (a ≥ b)), [])
  | .and => some (vInt k (k.wrap (BitVec.ofInt k.bits a &&& BitVec.ofInt k.bits b).toNat), [])
  | .or => some (vInt k (k.wrap (BitVec.ofInt k.bits a ||| BitVec.ofInt k.bits b).toNat), [])
  | .xor => some (vInt k (k.wrap (BitVec.ofInt k.bits a ^^^ BitVec.ofInt k.bits b).toNat), [])
  | .andNot => some (vInt k (k.wrap (BitVec.ofInt k.bits a &&& ~~~ BitVec.ofInt k.bits b).toNat), [])
  | _ => none

def shiftInt (op : BinOp) (k : IntKind) (a b : Int) : Option (D × List Prop) :=
  match op with
  | .shl => some (vInt k (k.wrap (a * 2 ^ (min b.toNat k.bits))), [0 ≤ b])
  | .shr => some (vInt k (a.fdiv (2 ^ (min b.toNat k.bits))), [0 ≤ b])
  | _ => none

/-- Are a struct's fields alike. -/
def eqGo (P : Program) (eq : TypeId → List C → List C → Option Bool) : List Field → List C → List C → Option Bool
  | [], _, _ => some true
  | f :: fs, xs, ys =>
    if f.name ≠ "_" then
      match tinfo P f.type with
      | some (_, n) =>
        match eq f.type ((xs.drop f.offset).take n) ((ys.drop f.offset).take n), eqGo P eq fs xs ys with
        | some a, some b => some (a && b)
        | _, _ => none
      | none => none
    else none

/-- Are plain cells alike, by their type. -/
def eqIn (P : Program) : Nat → TypeId → List C → List C → Option Bool
  | 0, _, _, _ => none
  | d + 1, t, xs, ys =>
    match P.underlying t, xs, ys with
    | some .bool, [.sc (.bool a)], [.sc (.bool b)] => some (a == b)
    | some (.int _), [.sc (.int k a)], [.sc (.int k' b)] => if k = k' then some (a == b) else none
    | some .string, [.sc (.string a)], [.sc (.string b)] => some (a == b)
    | some (.struct fs), xs, ys => if P.stoodInHeld t then none else eqGo P (eqIn P d) fs.toList xs ys
    | _, _, _ => none

def eqDepth : Nat := 20

def eqD (P : Program) (hp : List Ob) (t : TypeId) (a b : D) : Option Bool :=
  match P.underlying t, a, b with
  | some .bool, .v (.one (.sc (.bool a))), .v (.one (.sc (.bool b))) => some (a == b)
  | some (.struct fs), .v (.agg xs), .v (.agg ys) => if P.eqGuardType P.depth t then none else eqIn P eqDepth t xs ys
  | some (.pointer _), .v (.one (.ptr id ver _)), .v (.one (.sc (.pointer none))) => if (hp[id]?).any (·.fit ver) then some false else none
  | some (.pointer _), .v (.one (.sc (.pointer none))), .v (.one (.ptr id ver _)) => if (hp[id]?).any (·.fit ver) then some false else none
  | some (.pointer _), .v (.one (.sc (.pointer none))), .v (.one (.sc (.pointer none))) => some true
  | _, _, _ => none

def bin (P : Program) (hp : List Ob) (op : BinOp) (t : TypeId) (a b : D) : Option (D × List Prop) :=
  match op, a, b with
  | .shl, .v (.one (.sc (.int k a))), .v (.one (.sc (.int _ b))) => shiftInt .shl k a b
  | .shr, .v (.one (.sc (.int k a))), .v (.one (.sc (.int _ b))) => shiftInt .shr k a b
  | op, .v (.one (.sc (.int k a))), .v (.one (.sc (.int k' b))) => if k = k' then binInt op k a b else none
  | .eql, .v (.one (.sc (.string a))), .v (.one (.sc (.string b))) => some (vBool (a == b), [])
  | .neq, .v (.one (.sc (.string a))), .v (.one (.sc (.string b))) => some (vBool (!(a == b)), [])
  | .eql, a, b => (eqD P hp t a b).map fun r => (vBool r, [])
  | .neq, a, b => (eqD P hp t a b).map fun r => (vBool (!r), [])
  | _, _, _ => none

def fieldOf (P : Program) (s : TypeId) (f : Nat) : Option Field :=
  match P.underlying s with
  | some (.struct fs) => fs[f]?
  | _ => none

def fillC (place : Nat → Option (Nat × Nat)) (cells : List C) : List (Nat × D) → Option (List C)
  | [] => some cells
  | (i, .v x) :: rest => match place i with
    | some (off, size) => if x.cells.length = size ∧ off + size ≤ cells.length then fillC place (splice cells off x.cells) rest else none
    | none => none
  | _ :: _ => none

/-- The cells of a slice, as it is read: how many elements; the cells. -/
def slOf (hp : List Ob) (sz : Nat) : C → Option (Nat × List C)
  | .sc (.slice none 0 0) => some (0, [])
  | .sl n cs => some (n, cs)
  | .ar id ver off n => match hp[id]? with
    | some (.cells sz' ver' cs _) => if ver = ver' ∧ sz = sz' ∧ ver ≠ 0 then some (n, (cs.drop off).take (n * sz)) else none
    | _ => none
  | _ => none

/-- As many zero elements. -/
def zeroRow (z : Value) (n : Nat) : List C := (List.replicate n (z.cells.toList.map C.sc)).flatten

def elemOf (P : Program) (t : TypeId) : Option TypeId := match P.underlying t with | some (.slice e) => some e | _ => none

def intOf (d : D) : Option Int := match d with | .v (.one (.sc (.int _ n))) => some n | _ => none

/-- The bounds of a cut. -/
def bounds (n : Nat) (ρ : Operand → D) (lo hi mx : Option Operand) : Option (Int × Int × List Prop) :=
  match lo.map (fun x => intOf (ρ x)), hi.map (fun x => intOf (ρ x)), mx.map (fun x => intOf (ρ x)) with
  | none, none, none => some (0, n, [])
  | some (some l), none, none => some (l, n, [0 ≤ l, l ≤ n])
  | none, some (some h), none => some (0, h, [0 ≤ h, h ≤ n])
  | some (some l), some (some h), none => some (l, h, [0 ≤ l, l ≤ h, h ≤ n])
  | none, some (some h), some (some m) => some (0, h, [0 ≤ h, h ≤ m, m ≤ n])
  | some (some l), some (some h), some (some m) => some (l, h, [0 ≤ l, l ≤ h, h ≤ m, m ≤ n])
  | _, _, _ => none

/-- Is a cut one that has no room: [:0:0]? -/
def noRoom (ρ : Operand → D) (lo hi mx : Option Operand) : Bool :=
  match lo, hi.map ρ, mx.map ρ with
  | none, some (.v (.one (.sc (.int _ 0)))), some (.v (.one (.sc (.int _ 0)))) => true
  | _, _, _ => false

/-- Operations without a call of a function of Go's. -/
def opx (P : Program) (o : Oper) (ρ : Operand → D) (hp : List Ob) (os : List Or) : Out :=
  match o.op with
  | .move a | .assign a => some (ρ a, hp, os, [])
  | .pick c a b => match os, ρ c with
    | .br t :: os, .v (.one (.sc (.bool v))) => some (cond t (ρ a) (ρ b), hp, os, [v = t])
    | _, _ => none
  | .box _ x => match ρ x with
    | .v x => some (one (.ptr hp.length 0 0), hp ++ [.cells 1 0 x.cells false], os, [])
    | _ => none
  | .alloc t => match P.info? t with
    | some i => match i.zero with
      | some z => if litOk z then some (one (.ptr hp.length 0 0), hp ++ [.cells 1 0 (litV z).cells false], os, []) else none
      | none => none
    | none => none
  | .build t parts => match P.info? t, P.underlying t with
    | some i, some (.struct fs) => match i.zero with
      | some z => if litOk z ∧ (fs.all fun f => (P.info? f.type).isSome) then
          (fillC (fun i => (fs[i]?).map fun f => (f.offset, ((P.info? f.type).map (·.size)).getD 0)) (litV z).cells (parts.toList.map fun (i, x) => (i, ρ x))).map fun cs => (.v (.agg cs), hp, os, [])
        else none
      | none => none
    | some i, some (.array _ e) => match i.zero, P.info? e with
      | some z, some ie => if litOk z then
          (fillC (fun i => some (i * ie.size, ie.size)) (litV z).cells (parts.toList.map fun (i, x) => (i, ρ x))).map fun cs => (.v (.agg cs), hp, os, [])
        else none
      | _, _ => none
    | _, _ => none
  | .load t a => match tinfo P t, ρ a with
    | some (agg, n), .v (.one (.ptr id ver off)) => match hp[id]? with
      | some (.cells _ ver' cs _) => if ver = ver' then match wrapV agg ((cs.drop off).take n) with
          | some v => if ((cs.drop off).take n).length = n then some (.v v, hp, os, []) else none
          | none => none
        else none
      | _ => none
    | some (agg, n), .v (.one (.loc cs off)) => match os with
      | .cells new :: os => match wrapV agg new with
        | some v => if new.length = n then some (.v v, hp, os, [(cs.drop off).take n = new]) else none
        | none => none
      | _ => none
    | _, _ => none
  | .store t a x => match ρ a, ρ x, P.info? t with
    | .v (.one (.ptr id ver off)), .v x, some i => match hp[id]? with
      | some (.cells sz ver' cs false) => if ver = ver' ∧ x.cells.length = i.size ∧ off + x.cells.length ≤ cs.length ∧ (ver = 0 ∨ plains x.cells = true) then
          some (.dead, hp.set id (.cells sz ver (splice cs off x.cells) false), os, []) else none
      | _ => none
    | _, _, _ => none
  | .nilCheck x => match ρ x with
    | .v (.one (.ptr id ver off)) => if id < hp.length then some (ρ x, hp, os, [(hp[id]?).all (·.fit ver) = true]) else none
    | .v (.one (.loc cs off)) => some (ρ x, hp, os, [])
    | _ => none
  | .binOp op t a b _ => (bin P hp op t (ρ a) (ρ b)).map fun (d, ps) => (d, hp, os, ps)
  | .unOp op _ a => match op, ρ a with
    | .not, .v (.one (.sc (.bool b))) => some (vBool (!b), hp, os, [])
    | .neg, .v (.one (.sc (.int k n))) => some (vInt k (k.wrap (0 - n)), hp, os, [])
    | .xor, .v (.one (.sc (.int k n))) => some (vInt k (k.wrap (BitVec.ofInt k.bits (if k.signed then -1 else k.max) ^^^ BitVec.ofInt k.bits n).toNat), hp, os, [])
    | _, _ => none
  | .convert src dst a => match P.underlying src, P.underlying dst, ρ a with
    | some _, some (.int k), .v (.one (.sc (.int _ n))) => some (vInt k (k.wrap n), hp, os, [])
    | some _, some .string, .v (.one (.sc (.string s))) => some (one (.sc (.string s)), hp, os, [])
    | _, _, _ => none
  | .makeFunc (.func f) first caps => if first.size = 0 then
      match (caps.toList.map ρ).mapM (fun | .v (.one c) => some c | _ => none) with
      | some cs => some (one (.fn f cs), hp, os, [])
      | none => none
    else none
  | .fieldAddr s a f => match fieldOf P s f, ρ a with
    | some f, .v (.one (.ptr id ver off)) => match P.info? f.type with
      | some i => if 0 < i.size ∧ (hp[id]?).any (·.fit ver) then some (one (.ptr id ver (off + f.offset)), hp, os, []) else none
      | none => none
    | some f, .v (.one (.loc cs off)) => match P.info? f.type with
      | some i => if 0 < i.size then some (one (.loc cs (off + f.offset)), hp, os, []) else none
      | none => none
    | _, _ => none
  | .field s a f => match fieldOf P s f, ρ a with
    | some f, .v (.agg cs) => match tinfo P f.type with
      | some (agg, n) => match wrapV agg ((cs.drop f.offset).take n) with
        | some v => if ((cs.drop f.offset).take n).length = n then some (.v v, hp, os, []) else none
        | none => none
      | none => none
    | _, _ => none
  | .indexAddr t a i => match P.underlying t, ρ a, ρ i with
    | some (.slice e), .v (.one (.sl n cs)), .v (.one (.sc (.int _ i))) => match P.info? e with
      | some ie => some (one (.loc cs (i.toNat * ie.size)), hp, os, [0 ≤ i ∧ i < n])
      | none => none
    | some (.slice e), .v (.one (.ar id ver off n)), .v (.one (.sc (.int _ i))) => match P.info? e, hp[id]? with
      | some ie, some (.cells sz ver' cs _) => if ver = ver' ∧ sz = ie.size then some (one (.ptr id ver (off + i.toNat * ie.size)), hp, os, [0 ≤ i ∧ i < n]) else none
      | _, _ => none
    | some (.array n e), .v (.one (.ptr id ver off)), .v (.one (.sc (.int _ i))) => match P.info? e, os with
      | some ie, .idx j :: os => if (hp[id]?).any (·.fit ver) then some (one (.ptr id ver (off + j * ie.size)), hp, os, [i = (j : Int), j < n]) else none
      | _, _ => none
    | _, _, _ => none
  | .extract a i => match ρ a with
    | .tup xs => match xs[i]? with
      | some x => some (.v x, hp, os, [])
      | none => none
    | _ => none
  | .buildSlice t len parts => match P.underlying t with
    | some (.slice e) => match P.info? e with
      | some ie => match ie.zero with
        | some z => if litOk z ∧ 0 < ie.size ∧ z.cells.size = ie.size ∧ len * ie.size ≤ 2 ^ 24 then
            match fillC (fun i => some (i * ie.size, ie.size)) (zeroRow z len) (parts.toList.map fun (i, x) => (i, ρ x)) with
            | some cs => if plains cs then some (one (.ar hp.length 1 0 len), hp ++ [.cells ie.size 1 cs false], os, []) else none
            | none => none
          else none
        | none => none
      | none => none
    | _ => none
  | .makeSlice t l c => match P.underlying t, ρ l, ρ c with
    | some (.slice e), .v (.one (.sc (.int _ n))), .v (.one (.sc (.int _ n'))) => match P.info? e with
      | some ie => match ie.zero with
        | some z => if litOk z ∧ 0 < ie.size ∧ z.cells.size = ie.size ∧ 0 < ie.bytes then
            some (one (.ar hp.length 1 0 n.toNat), hp ++ [.cells ie.size 1 (zeroRow z n.toNat) false], os, [n = n', 0 ≤ n, ie.bytes * n ≤ 281474976710656])
          else none
        | none => none
      | none => none
    | _, _, _ => none
  | .slice t x lo hi mx => match P.underlying t, ρ x with
    | some (.slice e), .v (.one c) => match P.info? e with
      | some ie => if 0 < ie.size then
          if noRoom ρ lo hi mx then
            match slOf hp ie.size c with
            | some _ => some (one (.ar hp.length 1 0 0), hp ++ [.cells ie.size 1 [] false], os, [])
            | none => none
          else match c with
          | .sl n cs => match bounds n ρ lo hi mx with
            | some (l, h, ps) => some (one (.sl (h - l).toNat ((cs.drop (l.toNat * ie.size)).take ((h - l).toNat * ie.size))), hp, os, ps)
            | none => none
          | .ar id ver off n => match hp[id]?, bounds n ρ lo hi mx with
            | some (.cells sz ver' _ _), some (l, h, ps) => if ver = ver' ∧ sz = ie.size then
                some (one (.ar id ver (off + l.toNat * ie.size) (h - l).toNat), hp, os, ps) else none
            | _, _ => none
          | _ => none
        else none
      | none => none
    | some .string, .v (.one (.sc (.string s))) => match mx, bounds s.size ρ lo hi mx with
      | none, some (l, h, ps) => some (one (.sc (.string (s.extract l.toNat h.toNat))), hp, os, ps)
      | _, _ => none
    | _, _ => none
  | .call c => match c.callee with
    | .builtin .append => match c.args.toList.map ρ, c.argTypes.toList with
      | [.v (.one s), .v (.one x)], [t, t'] => if t = t' then
          match P.underlying t with
          | some (.slice e) => match P.info? e with
            | some ie => if 0 < ie.size ∧ 0 < ie.bytes ∧ ie.zero.map (·.cells.size) = some ie.size then
                match slOf hp ie.size x with
                | some (m, new) => match s with
                  | .sc (.slice none 0 0) => some (one (.ar hp.length 1 0 m), hp ++ [.cells ie.size 1 new false], os, [new.length = m * ie.size, m * ie.bytes ≤ 140737488355328])
                  | .ar id ver off n => match hp[id]? with
                    | some (.cells sz ver' cs fz) => if ver = ver' ∧ sz = ie.size ∧ ver ≠ 0 then
                        some (one (.ar id (ver + 1) 0 (n + m)), hp.set id (.cells ie.size (ver + 1) (cs.drop off ++ new) fz), os, [new.length = m * ie.size, off + n * ie.size = cs.length, (n + m) * ie.bytes ≤ 140737488355328])
                      else none
                    | _ => none
                  | _ => none
                | none => none
              else none
            | none => none
          | _ => none
        else none
      | _, _ => none
    | .builtin .len => match c.args.toList.map ρ, c.argTypes.toList.map P.underlying with
      | [.v (.one (.sl n _))], [some (.slice _)] => some (vInt .i64 n, hp, os, [])
      | [.v (.one (.sc (.slice none 0 0)))], [some (.slice _)] => some (vInt .i64 0, hp, os, [])
      | [.v (.one (.ar id ver _ n))], [some (.slice _)] => if (hp[id]?).any (·.fit ver) then some (vInt .i64 n, hp, os, []) else none
      | [.v (.one (.sc (.string s)))], [some .string] => some (vInt .i64 s.size, hp, os, [])
      | _, _ => none
    | .builtin .min => match c.args.toList.map ρ with
      | [.v (.one (.sc (.int k a))), .v (.one (.sc (.int _ b)))] => some (vInt k (if b < a then b else a), hp, os, [])
      | _ => none
    | .builtin .max => match c.args.toList.map ρ with
      | [.v (.one (.sc (.int k a))), .v (.one (.sc (.int _ b)))] => some (vInt k (if a < b then b else a), hp, os, [])
      | _ => none
    | _ => none
  | _ => none

end Go.Vm
