/- Lemmas: an executor over the program's code and its soundness, under the conditions that each theorem names. -/
import Derived.CallsIn
import Derived.OrdersIn
import Derived.RangeFuncLeaves
import Derived.RangeFuncIn
import Derived.Below
import Derived.KernelRfl
import GoSem.Extern.Table
set_option linter.unusedVariables false
set_option linter.unusedSimpArgs false
namespace Go.Ex
open Go Go.RowKit

/-! ### A map from numbers, as a binary tree -/
inductive Trie (α : Type) where
  | leaf
  | node (l : Trie α) (v : Option α) (r : Trie α)

def Trie.get {α : Type} : Trie α → Nat → Option α
  | .leaf, _ => none
  | .node l v r, n => match n with
    | 0 => v
    | k + 1 => match Nat.beq (k % 2) 0 with
      | true => l.get (k / 2)
      | false => r.get (k / 2)

def Trie.set {α : Type} : Nat → Trie α → Nat → Option α → Trie α
  | 0, t, _, _ => t
  | f + 1, .leaf, n, x => match n with
    | 0 => .node .leaf x .leaf
    | k + 1 => match Nat.beq (k % 2) 0 with
      | true => .node (Trie.set f .leaf (k / 2) x) none .leaf
      | false => .node .leaf none (Trie.set f .leaf (k / 2) x)
  | f + 1, .node l v r, n, x => match n with
    | 0 => .node l x r
    | k + 1 => match Nat.beq (k % 2) 0 with
      | true => .node (Trie.set f l (k / 2) x) v r
      | false => .node l v (Trie.set f r (k / 2) x)

/-! ### Abstract memory -/
/-- A capacity from here on is told by a block. -/
@[irreducible] def Kc : Nat := 18446744073709551616
@[irreducible] def Ks : Nat := 4294967296
/-- Is a capacity a number? -/
@[irreducible] def isEx (c : Nat) : Bool := Nat.blt c Kc
@[irreducible] def mkCap (id d : Nat) : Nat := Kc + id * Ks + d
@[irreducible] def capB (c : Nat) : Nat := match Nat.ble Kc c with
  | true => (c - Kc) / Ks
  | false => 0
@[irreducible] def capO (c : Nat) : Nat := match Nat.ble Kc c with
  | true => (c - Kc) % Ks
  | false => 0

/-- A frame's temporaries. -/
structure TT where
  t : Trie Value
  n : Nat

structure AEnt where
  key : Value
  val : Value
  born : Nat

inductive AObj where
  | cells (c : List Value) (elem : TypeId) (slack wr : Bool)
  | map (es : List AEnt) (clock : Nat)
  | obj (o : Obj)
  | loop (r : Loop) (T : TT)

structure AH where
  t : Trie AObj
  next : Nat
  low : Nat

def AH.get (A : AH) (id : Nat) : Option AObj := A.t.get id
def AH.put (A : AH) (id : Nat) (o : AObj) : AH := { A with t := A.t.set 40 id (some o), low := min A.low id }
def AH.drop (A : AH) (id : Nat) : AH := { A with t := A.t.set 40 id none, low := min A.low id }
def AH.add (A : AH) (o : AObj) : AH := { A with t := A.t.set 40 A.next (some o), next := A.next + 1 }
def AH.skip (A : AH) : AH := { A with next := A.next + 1 }

/-! ### Plain values: without addresses -/
mutual
def plainV : Value → Bool
  | .bool _ => true
  | .int _ _ => true
  | .float _ _ => true
  | .complex _ _ _ => true
  | .string _ => true
  | .pointer a => a.isNone
  | .slice a _ c => a.isNone && isEx c
  | .map r => r.isNone
  | .chan r => r.isNone
  | .func (.func _) f c => plainA f && plainA c
  | .func _ _ _ => false
  | .nilFunc => true
  | .iface _ v => plainV v
  | .nilIface => true
  | .agg cs => plainA cs
  | .tuple vs => plainA vs
def plainA : Array Value → Bool
  | ⟨l⟩ => plainL l
def plainL : List Value → Bool
  | [] => true
  | v :: r => plainV v && plainL r
end

/-- What a computation without memory comes to. -/
def pev (P : Program) {α : Type} : Sem α → Option α
  | .pure a => some a
  | .program k => pev P (k P)
  | .mark _ k => pev P k
  | _ => none

theorem pev_run {P : Program} {α : Type} (s : Sem α) (a : α) (h : pev P s = some a) (w : World) : s.run P w = .ok a w := by
  induction s with
  | pure b => simp [pev] at h; subst h; rfl
  | program k ih => exact ih P h
  | mark m k ih => exact ih h
  | _ => simp [pev] at h

/-! ### The environment -/
structure Env where
  P : Program
  G : Nat
  noesc : List FuncId
  mnz : List FuncId
  clone : List FuncId

def memF (f : Nat) : List Nat → Bool
  | [] => false
  | g :: r => match Nat.beq f g with | true => true | false => memF f r

inductive AN where
  | val (v : Value)
  | enter (f : FuncId) (args : List Value)
  | round (l : Nat) (args : List Value)

/-- Unchanged memory is 'none'. -/
abbrev AR := Option (AN × Option AH)

def isAggT (P : Program) (t : TypeId) : Option Bool :=
  match P.underlying t with
  | some (.struct _) => some true
  | some (.array _ _) => some true
  | some _ => some false
  | none => none

def sizeT (P : Program) (t : TypeId) : Option Nat := (P.info? t).map (·.size)
def zeroT (P : Program) (t : TypeId) : Option Value :=
  match P.info? t with
  | some i => match i.zero with
    | some z => if plainV z then some z else none
    | none => none
  | none => none

def loadN (c : List Value) (o n : Nat) : Option (List Value) := if Nat.ble (o + n) c.length then some ((c.drop o).take n) else none

def aload (P : Program) (t : TypeId) (p : Value) (A : AH) : Option Value :=
  match p with
  | .pointer (some ⟨b, o, none⟩) =>
    match A.get b with
    | some (.cells c _ _ _) =>
      match isAggT P t with
      | some true => match sizeT P t with
        | some n => match loadN c o n with
          | some vs => some (.agg ⟨vs⟩)
          | none => none
        | none => none
      | some false => c[o]?
      | none => none
    | _ => none
  | _ => none

def oneC : Value → Bool
  | .agg _ => false
  | .tuple _ => false
  | _ => true

def setL : List Value → Nat → List Value → List Value
  | c, _, [] => c
  | c, o, v :: vs => setL (c.set o v) (o + 1) vs

/-- Cells written from a place on. -/
def aput (b o : Nat) (vs : List Value) (A : AH) : Option AH :=
  match A.get b with
  | some (.cells c e sl true) => if Nat.ble (o + vs.length) c.length && vs.all oneC then some (A.put b (.cells (setL c o vs) e sl true)) else none
  | _ => none

def astore (P : Program) (t : TypeId) (p v : Value) (A : AH) : Option AH :=
  match p with
  | .pointer (some ⟨b, o, none⟩) =>
    match sizeT P t with
    | some n => if Nat.beq v.cells.size n then aput b o v.cells.toList A else none
    | none => none
  | _ => none

def addO (a : Addr) (n : Nat) : Addr := a.add n

/-- The cells that a slice's value leads to, n elements. -/
def aview (size : Nat) (x : Value) (n : Nat) (A : AH) : Option (List Value) :=
  match x with
  | .slice none _ _ => some []
  | .slice (some ⟨b, o, none⟩) _ _ =>
    if Nat.beq (n * size) 0 then some [] else
    match A.get b with
    | some (.cells c _ _ _) => loadN c o (n * size)
    | _ => none
  | .string s => some ((s.data.toList.take n).map fun b => .int .u8 b.toNat)
  | _ => none

def alen : Value → Option Nat
  | .slice _ n _ => some n
  | .string s => some s.size
  | _ => none

def replZ (z : List Value) : Nat → List Value
  | 0 => []
  | n + 1 => z ++ replZ z n

/-- What is appended: how many elements, and their cells. -/
def anews (P : Program) (e : TypeId) (size : Nat) (xt : TypeId) (x : Value) (A : AH) : Option (Nat × List Value) :=
  match P.underlying xt, x with
  | some (.int _), .int _ l => if l < 0 then none else
    match zeroT P e with
    | some z => some (l.toNat, replZ z.cells.toList l.toNat)
    | none => none
  | some (.int _), _ => none
  | some _, _ => match alen x with
    | some n => match aview size x n A with
      | some vs => some (n, vs)
      | none => none
    | none => none
  | none, _ => none

def agrown (e : TypeId) (need : Nat) (cells : List Value) (A : AH) : Option (Value × Option AH) :=
  match cells.all oneC with
  | true => some (.slice (some ⟨A.next, 0, none⟩) need (mkCap A.next 0), some (A.add (.cells cells e true true)))
  | false => none

/-- Elements behind those that are there, in place. -/
def aplace (size : Nat) (base : Option Addr) (sl sc n : Nat) (vs : List Value) (A : AH) : Option (Value × Option AH) :=
  match base with
  | none => some (.slice none (sl + n) sc, none)
  | some ⟨b, o, none⟩ =>
    match vs.isEmpty with
    | true => some (.slice base (sl + n) sc, none)
    | false => match aput b (o + sl * size) vs A with
      | some A' => some (.slice base (sl + n) sc, some A')
      | none => none
  | _ => none

def aappendTo (e : TypeId) (size : Nat) (base : Option Addr) (sl sc n : Nat) (vs : List Value) (A : AH) : Option (Value × Option AH) :=
  match isEx sc with
  | true =>
    match Nat.ble (sl + n) sc with
    | true => aplace size base sl sc n vs A
    | false => match aview size (.slice base sl sc) sl A with
      | some old => match Nat.beq old.length (sl * size) with
        | true => agrown e (sl + n) (old ++ vs) A
        | false => none
      | none => none
  | false =>
    match base with
    | some ⟨b, o, none⟩ =>
      match A.get b with
      | some (.cells c e' true true) =>
        match Nat.beq (capB sc) b && Nat.beq (capO sc) 0 && Nat.beq e e' && Nat.beq o 0 with
        | true =>
          match Nat.ble ((sl + n) * size) c.length with
          | true => aplace size base sl sc n vs A
          | false => match Nat.ble (sl * size) c.length with
            | true => agrown e (sl + n) (c.take (sl * size) ++ vs) (A.drop b)
            | false => none
        | false => none
      | _ => none
    | _ => none

def aappend (P : Program) (argTypes : Array TypeId) (args : List Value) (A : AH) : Option (Value × Option AH) :=
  match argTypes.toList, args with
  | [st, xt], [s, x] =>
    match P.underlying st, s with
    | some (.slice e), .slice base sl sc =>
      match P.info? e, zeroT P e with
      | some i, some z =>
        match anews P e i.size xt x A with
        | some (n, vs) =>
          match Nat.ble ((3 * (sl + n) + 4000) * i.bytes) 281474976710656 && Nat.ble 1 i.bytes && Nat.ble 1 i.size && Nat.beq z.cells.size i.size && Nat.beq vs.length (n * i.size) with
          | true => aappendTo e i.size base sl sc n vs A
          | false => none
        | none => none
      | _, _ => none
    | _, _ => none
  | _, _ => none

end Go.Ex
namespace Go.Ex
open Go Go.RowKit

def TT.get (T : TT) (k : Nat) : Value := match T.t.get k with
  | some v => v
  | none => undef
def TT.put (T : TT) (d : Option Tmp) (v : Value) : TT := match d with
  | some k => match Nat.blt k T.n with
    | true => { T with t := T.t.set 24 k (some v) }
    | false => T
  | none => T
def TT.ofList : List Value → Nat → Trie Value → Trie Value
  | [], _, t => t
  | v :: r, i, t => TT.ofList r (i + 1) (t.set 24 i (some v))

def evT (T : TT) : Operand → Value
  | .tmp k => T.get k
  | .const v => v
  | .global g => .pointer (some ⟨g, 0, none⟩)
  | .func f => .func (.func f) #[] #[]

def okX (E : Env) : Operand → Bool
  | .const v => plainV v
  | .global g => Nat.blt g E.G
  | _ => true

def natOf : Value → Option Nat
  | .int _ i => if 0 ≤ i then some i.toNat else none
  | _ => none

/-- Known cells of the block behind an address: one whose capacity no number tells. -/
def knownOf (b e : Nat) (A : AH) : Option Nat :=
  match A.get b with
  | some (.cells c e' true _) => match Nat.beq e e' with
    | true => some c.length
    | false => none
  | _ => none

def optNat (x : Option Value) (d : Nat) : Option Nat :=
  match x with
  | none => some d
  | some v => natOf v

/-- Of a slice whose capacity a block tells. -/
def asliceIn (e size b o len sc l h : Nat) (mx : Option Value) (A : AH) : Option (Value × Option AH) :=
  match Nat.beq (capB sc) b && Nat.ble 1 size && Nat.ble l h with
  | false => none
  | true =>
    match mx with
    | some mv =>
      match natOf mv with
      | some m => match Nat.beq h 0 && Nat.beq m 0 with
        | true => some (.slice (some ⟨b, o, none⟩) 0 0, none)
        | false => none
      | none => none
    | none =>
      match knownOf b e A with
      | none => match Nat.beq h 0 with
        | true => some (.slice (some ⟨b, o, none⟩) 0 sc, none)
        | false => none
      | some known =>
        match Nat.ble (o + h * size) known && Nat.beq o (capO sc * size) && Nat.blt (capO sc + l) Ks with
        | false => none
        | true =>
          match Nat.beq l 0 with
          | true => some (.slice (some ⟨b, o, none⟩) h sc, none)
          | false =>
            match Nat.blt (o + l * size) known with
            | true => some (.slice (some ⟨b, o + l * size, none⟩) (h - l) (mkCap b (capO sc + l)), none)
            | false => match Nat.beq h l with
              | true => some (.slice (some ⟨A.next, 0, none⟩) 0 (mkCap A.next 0), some A.skip)
              | false => none

def aslice (P : Program) (t : TypeId) (x : Value) (lo hi mx : Option Value) (A : AH) : Option (Value × Option AH) :=
  match P.underlying t, x with
  | some (.array n e), .pointer (some a) =>
    match optNat lo 0, optNat hi n, optNat mx n, sizeT P e with
    | some l, some h, some m, some size =>
      match isEx n && Nat.ble m n && Nat.ble h m && Nat.ble l h && (hi.isSome || mx.isNone) with
      | true => some (.slice (some (if m = l then a else a.add (l * size))) (h - l) (m - l), none)
      | false => none
    | _, _, _, _ => none
  | some (.slice e), .slice base len sc =>
    match optNat lo 0, optNat hi len, sizeT P e with
    | some l, some h, some size =>
      match hi.isSome || mx.isNone with
      | false => none
      | true =>
        match isEx sc with
        | true =>
          match optNat mx sc with
          | some m => match Nat.ble m sc && Nat.ble h m && Nat.ble l h with
            | true => some (.slice (if m = l then base else base.map (·.add (l * size))) (h - l) (m - l), none)
            | false => none
          | none => none
        | false =>
          match base with
          | some ⟨b, o, none⟩ => asliceIn e size b o len sc l h mx A
          | _ => none
    | _, _, _ => none
  | _, _ => none

def aindexAddr (P : Program) (t : TypeId) (x ix : Value) : Option Value :=
  match natOf ix, P.underlying t, x with
  | some i, some (.slice e), .slice (some a) len _ =>
    match sizeT P e with
    | some size => if Nat.blt i len then some (.pointer (some (a.add (i * size)))) else none
    | none => none
  | some i, some (.array n e), .pointer (some a) =>
    match sizeT P e with
    | some size => if Nat.blt i n then some (.pointer (some (a.add (i * size)))) else none
    | none => none
  | _, _, _ => none

def afieldAddr (P : Program) (s : TypeId) (x : Value) (f : Nat) : Option Value :=
  match P.underlying s, x with
  | some (.struct fs), .pointer (some a) =>
    match fs[f]? with
    | some fd => match sizeT P fd.type with
      | some n => if Nat.beq n 0 then none else some (.pointer (some (a.add fd.offset)))
      | none => none
    | none => none
  | _, _ => none

def apart (P : Program) (t : TypeId) (cs : List Value) (o : Nat) : Option Value :=
  match isAggT P t with
  | some true => match sizeT P t with
    | some n => some (.agg ⟨(cs.drop o).take n⟩)
    | none => none
  | some false => cs[o]?
  | none => none

def afield (P : Program) (s : TypeId) (x : Value) (f : Nat) : Option Value :=
  match P.underlying s, x with
  | some (.struct fs), .agg ⟨cs⟩ =>
    match fs[f]? with
    | some fd => apart P fd.type cs fd.offset
    | none => none
  | _, _ => none

def aindex (P : Program) (t : TypeId) (x ix : Value) : Option Value :=
  match natOf ix, P.underlying t, x with
  | some i, some (.array n e), .agg ⟨cs⟩ => match sizeT P e with
    | some size => if Nat.blt i n then apart P e cs (i * size) else none
    | none => none
  | _, _, _ => none

/-- '==' where an address may stand. -/
def aeq (P : Program) (t : TypeId) (x y : Value) : Option Bool :=
  match P.underlying t, x, y with
  | some (.pointer _), .pointer none, .pointer b => some b.isNone
  | some (.pointer _), .pointer (some _), .pointer none => some false
  | some (.pointer e), .pointer (some a), .pointer (some b) =>
    match sizeT P e with
    | some n => if !(Nat.beq n 0) && Nat.beq a.block b.block && a.spot.isNone && b.spot.isNone then some (Nat.beq a.off b.off) else none
    | none => none
  | some (.slice _), .slice none _ _, .slice b _ _ => some b.isNone
  | some (.slice _), .slice (some _) _ _, .slice none _ _ => some false
  | some (.map _ _), .map none, .map b => some b.isNone
  | some (.map _ _), .map (some _), .map none => some false
  | some (.func _ _ _), .nilFunc, .func _ _ _ => some false
  | some (.func _ _ _), .func _ _ _, .nilFunc => some false
  | some (.interface _), .nilIface, .iface _ _ => some false
  | some (.interface _), .iface _ _, .nilIface => some false
  | _, _, _ => none

def afill (place : Nat → Option (Nat × Nat)) : List Value → List (Nat × Value) → Option (List Value)
  | cells, [] => some cells
  | cells, (i, v) :: rest =>
    match place i with
    | none => none
    | some (off, size) => if Nat.beq v.cells.size size && Nat.ble (off + size) cells.length then afill place (setL cells off v.cells.toList) rest else none

def fieldPlaces (P : Program) : List Field → Option (List (Nat × Nat))
  | [] => some []
  | f :: r => match sizeT P f.type, fieldPlaces P r with
    | some n, some l => some ((f.offset, n) :: l)
    | _, _ => none

def abuild (P : Program) (t : TypeId) (parts : List (Nat × Value)) : Option Value :=
  match zeroT P t with
  | some z =>
    match P.underlying t with
    | some (.struct fs) => match fieldPlaces P fs.toList with
      | some pl => match afill (fun i => pl[i]?) z.cells.toList parts with
        | some cs => some (.agg ⟨cs⟩)
        | none => none
      | none => none
    | some (.array _ e) => match sizeT P e with
      | some size => match afill (fun i => some (i * size, size)) z.cells.toList parts with
        | some cs => some (.agg ⟨cs⟩)
        | none => none
      | none => none
    | _ => none
  | none => none

def abuildSlice (P : Program) (t : TypeId) (len : Nat) (parts : List (Nat × Value)) (A : AH) : Option (Value × AH) :=
  match P.underlying t with
  | some (.slice e) =>
    match sizeT P e, zeroT P e with
    | some size, some z =>
      if !(Nat.ble (len * size) 16777216) || !(Nat.beq z.cells.size size) || !(Nat.ble 1 size) then none else
      match afill (fun i => some (i * size, size)) (replZ z.cells.toList len) parts with
      | some cs => if cs.all oneC then some (.slice (some ⟨A.next, 0, none⟩) len len, A.add (.cells cs e false true)) else none
      | none => none
    | _, _ => none
  | _ => none

def amakeSlice (P : Program) (t : TypeId) (len cap : Value) (A : AH) : Option (Value × AH) :=
  match P.underlying t, natOf len, natOf cap with
  | some (.slice e), some l, some c =>
    match P.info? e, zeroT P e with
    | some i, some z =>
      if Nat.ble l c && Nat.ble (i.bytes * c) 140737488355328 && Nat.blt c 9223372036854775808 && Nat.beq z.cells.size i.size && z.cells.toList.all oneC then
        some (.slice (some ⟨A.next, 0, none⟩) l c, A.add (.cells (replZ z.cells.toList c) e false true))
      else none
    | _, _ => none
  | _, _, _ => none

def aEnts (x : Value) (A : AH) : Option (List AEnt × Nat × Option Nat) :=
  match x with
  | .map none => some ([], 0, none)
  | .map (some r) => match A.get r with
    | some (.map es clock) => some (es, clock, some r)
    | _ => none
  | _ => none

/-- The place of a key among entries. -/
def aKey (P : Program) (kt : TypeId) (k : Value) : List AEnt → Nat → Option (Option (Nat × Value))
  | [], _ => some none
  | e :: es, i => match pev P (Op.equal kt k e.key) with
    | some true => some (some (i, e.val))
    | some false => aKey P kt k es (i + 1)
    | none => none

def aFind (P : Program) (kt : TypeId) (k : Value) (es : List AEnt) : Option (Option (Nat × Value)) :=
  if plainV k && es.all (fun e => plainV e.key) then aKey P kt k es 0 else none

def okKey (P : Program) (empty : Bool) (kt : TypeId) (k : Value) : Bool :=
  match pev P (Instr.checkKey empty 10000 kt k) with
  | some _ => true
  | none => false

def alookup (P : Program) (t : TypeId) (x k : Value) (ok : Bool) (A : AH) : Option Value :=
  match P.underlying t, aEnts x A with
  | some (.map kt et), some (es, _, _) =>
    if !(plainV k) || !(okKey P es.isEmpty kt k) then none else
    match aFind P kt k es with
    | some (some (_, v)) => some (if ok then .tuple #[v, .bool true] else v)
    | some none => match zeroT P et with
      | some z => some (if ok then .tuple #[z, .bool false] else z)
      | none => none
    | none => none
  | _, _ => none

def modEnt : List AEnt → Nat → AEnt → List AEnt
  | [], _, _ => []
  | e :: es, 0, x => { x with born := e.born } :: es
  | e :: es, n + 1, x => e :: modEnt es n x

def amapUpdate (P : Program) (t : TypeId) (m k v : Value) (A : AH) : Option AH :=
  match P.underlying t, aEnts m A with
  | some (.map kt _), some (es, clock, some r) =>
    if !(plainV k) || !(okKey P false kt k) then none else
    match aFind P kt k es with
    | some (some (i, _)) =>
      match es[i]? with
      | some e => if Instr.sameBits 10000 e.key k then some (A.put r (.map (modEnt es i { key := k, val := v, born := 0 }) clock)) else none
      | none => none
    | some none => some (A.put r (.map (es ++ [{ key := k, val := v, born := clock }]) (clock + 1)))
    | none => none
  | _, _ => none

def dropAt {α : Type} : List α → Nat → List α
  | [], _ => []
  | _ :: es, 0 => es
  | e :: es, n + 1 => e :: dropAt es n

def adelete (P : Program) (t : TypeId) (m k : Value) (A : AH) : Option (Option AH) :=
  match P.underlying t, aEnts m A with
  | some (.map kt _), some (es, clock, r) =>
    if !(plainV k) || !(okKey P es.isEmpty kt k) then none else
    match r with
    | none => some none
    | some r =>
      match aFind P kt k es with
      | some (some (i, _)) => some (some (A.put r (.map (dropAt es i) clock)))
      | some none => some none
      | none => none
  | _, _ => none

def arange (P : Program) (t : TypeId) (x : Value) (A : AH) : Option (Value × AH) :=
  match P.underlying t, x with
  | some .string, .string s => some (.pointer (some ⟨A.next, 0, none⟩), A.add (.obj (.stringIter s 0)))
  | some (.map _ _), .map none => some (.pointer (some ⟨A.next, 0, none⟩), A.add (.obj (.mapIter none 0 #[] 0)))
  | some (.map _ _), .map (some m) => match A.get m with
    | some (.map _ clock) => some (.pointer (some ⟨A.next, 0, none⟩), A.add (.obj (.mapIter (some m) clock #[] clock)))
    | _ => none
  | _, _ => none

def anext (it : Value) (isString : Bool) (A : AH) : Option (Value × Option AH) :=
  match it with
  | .pointer (some ⟨r, 0, none⟩) =>
    match A.get r, isString with
    | some (.obj (.stringIter s pos)), true =>
      if Nat.blt pos s.size then
        let d := Utf8.decode s pos
        some (.tuple #[.bool true, goInt pos, .int .i32 d.1], some (A.put r (.obj (.stringIter s (pos + d.2)))))
      else some (.tuple #[.bool false], none)
    | some (.obj (.mapIter none _ _ _)), false => some (.tuple #[.bool false], none)
    | some (.obj (.mapIter (some m) since seen last)), false =>
      match A.get m with
      | some (.map es clock) =>
        if !seen.isEmpty && !es.isEmpty && es.all (fun e => Nat.ble last e.born) then none else
        match es.filter (fun e => !seen.contains e.born) with
        | [] => some (.tuple #[.bool false], none)
        | [e] => if Nat.blt e.born since then some (.tuple #[.bool true, e.key, e.val], some (A.put r (.obj (.mapIter (some m) since (seen.push e.born) clock)))) else none
        | _ => none
      | _ => none
    | _, _ => none
  | _ => none

def acopy (P : Program) (argTypes : Array TypeId) (args : List Value) (A : AH) : Option (Value × Option AH) :=
  match argTypes.toList, args with
  | dt :: _, [dst, src] =>
    match P.underlying dt, dst with
    | some (.slice e), .slice base dl _ =>
      match sizeT P e, alen src with
      | some size, some sl =>
        let n := min sl dl
        match aview size src n A with
        | some vs =>
          match base with
          | none => some (goInt n, none)
          | some ⟨b, o, none⟩ => if vs.isEmpty then some (goInt n, none) else
            match aput b o vs A with
            | some A' => some (goInt n, some A')
            | none => none
          | _ => none
        | none => none
      | _, _ => none
    | _, _ => none
  | _, _ => none

def alenB (P : Program) (t : TypeId) (x : Value) (A : AH) : Option Value :=
  match P.underlying t, x with
  | some (.array n _), _ => some (goInt n)
  | some (.slice _), .slice _ n _ => some (goInt n)
  | some (.map _ _), .map (some r) => match A.get r with
    | some (.map es _) => some (goInt es.length)
    | _ => none
  | _, _ => none

def aclear (P : Program) (t : TypeId) (x : Value) (A : AH) : Option (Option AH) :=
  match P.underlying t, x with
  | some (.slice _), .slice none _ _ => some none
  | some (.slice _), .slice _ 0 _ => some none
  | some (.slice e), .slice (some ⟨b, o, none⟩) n _ =>
    match zeroT P e with
    | some z => match aput b o (replZ z.cells.toList n) A with
      | some A' => some (some A')
      | none => none
    | none => none
  | _, _ => none

def bytesOfV : List Value → Option (List UInt8)
  | [] => some []
  | .int .u8 (.ofNat n) :: r => match Nat.blt n 256 with
    | true => match bytesOfV r with
      | some l => some (UInt8.ofNat n :: l)
      | none => none
    | false => none
  | _ => none

def aconvert (P : Program) (src dst : TypeId) (x : Value) (A : AH) : Option (Value × Option AH) :=
  match P.underlying src, P.underlying dst, x with
  | some .string, some (.slice e), .string s =>
    match P.underlying e, sizeT P e with
    | some (.int .u8), some 1 => some (.slice (some ⟨A.next, 0, none⟩) s.size (mkCap A.next 0), some (A.add (.cells (s.data.toList.map fun b => .int .u8 b.toNat) e true true)))
    | _, _ => none
  | some (.pointer u), some .unsafePointer, .pointer (some ⟨b, o, none⟩) =>
    match A.get b, sizeT P u with
    | some (.cells c _ _ _), some n => if Nat.blt o c.length && !(Nat.beq n 0) then some (x, none) else none
    | _, _ => none
  | some .unsafePointer, some (.pointer u), .pointer (some ⟨b, o, none⟩) =>
    match A.get b, sizeT P u with
    | some (.cells c e _ _), some _ => if liesAt P P.depth e (c.length / P.cellsOf e) o u 1 then some (x, none) else none
    | _, _ => none
  | some (.slice _), some (.slice e), .slice (some ⟨b, _, none⟩) _ _ =>
    match Nat.beq src dst, P.underlying e, A.get b with
    | true, some (.int .u8), some (.cells c et sl true) => some (x, some (A.put b (.cells c et sl false)))
    | _, _, _ => none
  | some (.slice e), some .string, .slice (some _) n _ =>
    match P.underlying e, aview 1 x n A with
    | some (.int .u8), some vs => match bytesOfV vs with
      | some l => some (.string ⟨⟨l⟩⟩, none)
      | none => none
    | _, _ => none
  | _, _, _ => none

def asliceData (P : Program) (b p n : Nat) (A : AH) : Option Value :=
  match isEx n with
  | true => match Nat.ble 1 n with
    | true => some (.pointer (some ⟨b, p, none⟩))
    | false => none
  | false => match A.get b with
    | some (.cells (_ :: _) e true _) => match Nat.beq (capB n) b && Nat.beq (capO n) 0 && (sizeT P e).isSome with
      | true => some (.pointer (some ⟨b, p, none⟩))
      | false => none
    | _ => none

def aunsafeString (P : Program) (argTypes : Array TypeId) (p : Value) (n : Nat) (A : AH) : Option (Value × Option AH) :=
  match argTypes.toList, p with
  | pt :: _, .pointer (some ⟨b, o, none⟩) =>
    match P.underlying pt, A.get b with
    | some (.pointer u), some (.cells c e sl true) =>
      if Nat.ble 1 n && Nat.blt n 9223372036854775808 && liesAt P P.depth e (c.length / P.cellsOf e) o u n then
        match loadN c o n with
        | some vs => match bytesOfV vs with
          | some l => some (.string ⟨⟨l⟩⟩, some (A.put b (.cells c e sl false)))
          | none => none
        | none => none
      else none
    | _, _ => none
  | _, _ => none

def atypeAssert (P : Program) (x : Value) (ty : TypeId) (ok : Bool) : Option Value :=
  match P.underlying ty, x with
  | some (.interface _), _ => none
  | some _, .iface t v => if Nat.beq t ty then some (if ok then .tuple #[v, .bool true] else v) else
      match ok, zeroT P ty with
      | true, some z => some (.tuple #[z, .bool false])
      | _, _ => none
  | _, _ => none

def asV (r : Option Value) : AR := match r with
  | some v => some (.val v, none)
  | none => none
def asVA (r : Option (Value × AH)) : AR := match r with
  | some (v, A) => some (.val v, some A)
  | none => none
def asVO (r : Option (Value × Option AH)) : AR := match r with
  | some (v, A) => some (.val v, A)
  | none => none
def asU (r : Option AH) : AR := match r with
  | some A => some (.val undef, some A)
  | none => none
def asUO (r : Option (Option AH)) (v : Value) : AR := match r with
  | some A => some (.val v, A)
  | none => none

/-- The result of a computation over plain values. -/
def asPlain (P : Program) (s : Sem Next) : AR :=
  match pev P s with
  | some (.value v) => if plainV v then some (.val v, none) else none
  | some .skip => some (.val undef, none)
  | some (.enter f args) => if plainA args then some (.enter f args.toList, none) else none
  | _ => none

def acapB (P : Program) (ats : Array TypeId) (x : Value) : Option Value :=
  match ats.toList, x with
  | tt :: _, .slice _ _ n => match P.underlying tt, isEx n with
    | some (.slice _), true => some (goInt n)
    | _, _ => none
  | _, _ => none

def acallB (P : Program) (b : Builtin) (ats : Array TypeId) (args : List Value) (A : AH) : AR :=
  match b, args with
  | .append, l => asVO (aappend P ats l A)
  | .copy, l => asVO (acopy P ats l A)
  | .len, [x] => match ats.toList with
    | tt :: _ => asV (alenB P tt x A)
    | [] => none
  | .cap, [x] => asV (acapB P ats x)
  | .unsafeSliceData, [.slice none _ _] => some (.val (.pointer none), none)
  | .unsafeSliceData, [.slice (some ⟨b, p, none⟩) _ n] => asV (asliceData P b p n A)
  | .unsafeString, [p, .int _ n] => if 0 ≤ n then asVO (aunsafeString P ats p n.toNat A) else none
  | .delete, [m, k] => match ats.toList with
    | tt :: _ => asUO (adelete P tt m k A) (.tuple #[])
    | [] => none
  | .clear, [x] => match ats.toList with
    | tt :: _ => asUO (aclear P tt x A) (.tuple #[])
    | [] => none
  | _, _ => none

def acallF (E : Env) (g : Nat) (full : List Value) (A : AH) : AR :=
  match E.P.funcs[g]? with
  | some fn => match fn.body with
    | some _ => some (.enter g full, none)
    | none =>
      match memF g E.noesc with
      | true => match full with
        | [v] => some (.val v, none)
        | _ => none
      | false => match memF g E.mnz with
        | true => match full, fn.resultTypes.toList with
          | [.int .i64 n], rt :: _ => match E.P.underlying rt with
            | some (.slice e) => match decide (0 ≤ n) && decide (n ≤ 281474976710656) with
              | true => some (.val (.slice (some ⟨A.next, 0, none⟩) n.toNat (mkCap A.next 0)), some (A.add (.cells [] e true true)))
              | false => none
            | _ => none
          | _, _ => none
        | false => match memF g E.clone with
          | true => match full with
            | [.iface ty (.map (some r))] => match A.get r with
              | some (.map es clock) => some (.val (.iface ty (.map (some A.next))), some (A.add (.map es clock)))
              | _ => none
            | _ => none
          | false => none
  | none => none

def acallV (E : Env) (f : Value) (args : List Value) (A : AH) : AR :=
  match f with
  | .func (.func g) ⟨first⟩ ⟨captured⟩ => acallF E g (first ++ args ++ captured) A
  | .func (.yield l) ⟨first⟩ _ => some (.round l (first ++ args), none)
  | _ => none

def acall (E : Env) (c : Call) (t : TT) (A : AH) : AR :=
  match c.callee with
  | .builtin b => acallB E.P b c.argTypes (c.args.toList.map (evT t)) A
  | .value f => acallV E (evT t f) (c.args.toList.map (evT t)) A
  | .invoke _ _ => none

def aspec (E : Env) (o : Oper) (t : TT) (A : AH) : AR :=
  match o.op with
  | .move x => some (.val (evT t x), none)
  | .assign x => some (.val (evT t x), none)
  | .pick c a b => match evT t c with
    | .bool true => some (.val (evT t a), none)
    | .bool false => some (.val (evT t b), none)
    | _ => none
  | .alloc e => match zeroT E.P e with
    | some z => if z.cells.toList.all oneC then some (.val (.pointer (some ⟨A.next, 0, none⟩)), some (A.add (.cells z.cells.toList e false true))) else none
    | none => none
  | .box e x => if (evT t x).cells.toList.all oneC then some (.val (.pointer (some ⟨A.next, 0, none⟩)), some (A.add (.cells (evT t x).cells.toList e false true))) else none
  | .build ty parts => asV (abuild E.P ty (parts.toList.map fun p => (p.1, evT t p.2)))
  | .buildSlice ty n parts => asVA (abuildSlice E.P ty n (parts.toList.map fun p => (p.1, evT t p.2)) A)
  | .load ty x => asV (aload E.P ty (evT t x) A)
  | .store ty x v => asU (astore E.P ty (evT t x) (evT t v) A)
  | .nilCheck x => match evT t x with
    | .pointer (some a) => some (.val (.pointer (some a)), none)
    | .func (.func f) a b => some (.val (.func (.func f) a b), none)
    | .func (.yield f) a b => some (.val (.func (.yield f) a b), none)
    | .iface a b => some (.val (.iface a b), none)
    | _ => none
  | .binOp op ty x y _ => match op with
    | .eql => match aeq E.P ty (evT t x) (evT t y) with
      | some b => some (.val (.bool b), none)
      | none => none
    | .neq => match aeq E.P ty (evT t x) (evT t y) with
      | some b => some (.val (.bool !b), none)
      | none => none
    | _ => none
  | .convert s d x => asVO (aconvert E.P s d (evT t x) A)
  | .makeInterface ty x => match E.P.underlying ty with
    | some (.interface _) => none
    | some _ => some (.val (.iface ty (evT t x)), none)
    | none => none
  | .makeFunc (.func f) first captured => some (.val (.func (.func f) ⟨first.toList.map (evT t)⟩ ⟨captured.toList.map (evT t)⟩), none)
  | .makeMap _ none => some (.val (.map (some A.next)), some (A.add (.map [] 0)))
  | .makeSlice ty l c => asVA (amakeSlice E.P ty (evT t l) (evT t c) A)
  | .slice ty x lo hi mx => asVO (aslice E.P ty (evT t x) (lo.map (evT t)) (hi.map (evT t)) (mx.map (evT t)) A)
  | .fieldAddr s x f => asV (afieldAddr E.P s (evT t x) f)
  | .field s x f => asV (afield E.P s (evT t x) f)
  | .indexAddr ty x i => asV (aindexAddr E.P ty (evT t x) (evT t i))
  | .index ty x i => asV (aindex E.P ty (evT t x) (evT t i))
  | .lookup ty x k ok => asV (alookup E.P ty (evT t x) (evT t k) ok A)
  | .mapUpdate ty m k v => asU (amapUpdate E.P ty (evT t m) (evT t k) (evT t v) A)
  | .insert ty m k v => asU (amapUpdate E.P ty (evT t m) (evT t k) (evT t v) A)
  | .range ty x => asVA (arange E.P ty (evT t x) A)
  | .next it s => asVO (anext (evT t it) s A)
  | .typeAssert x _ ty ok => asV (atypeAssert E.P (evT t x) ty ok)
  | .extract x i => match evT t x with
    | .tuple ⟨vs⟩ => asV vs[i]?
    | _ => none
  | .call c => acall E c t A
  | _ => none

def isPlainOp (o : Oper) : Bool :=
  match o.op with
  | .move _ | .assign _ | .alloc _ | .box _ _ | .buildSlice _ _ _ | .load _ _ | .store _ _ _ | .makeMap _ _ | .makeSlice _ _ _ | .range _ _ | .next _ _ | .defer _ | .go _ | .select _ _ | .fieldAddr _ _ _ | .indexAddr _ _ _ => false
  | _ => true

/-- The seldom ones, and whatever needs the model's own reckoning. -/
def arest (E : Env) (o : Oper) (T : TT) (A : AH) : AR :=
  if !(o.op.operands.toList.all (okX E)) then none else
  if isPlainOp o && o.op.operands.toList.all (fun x => plainV (evT T x)) then
    match asPlain E.P (execOp (evT T) o) with
    | some r => some r
    | none => aspec E o T A
  else aspec E o T A

inductive K1 where
  | mv (x : Operand)
  | load (t : TypeId) (x : Operand)
  | bin (op : BinOp) (x y : Operand)
  | call (c : Call)
  | fa (s : TypeId) (x : Operand) (f : Nat)
  | pick (c a b : Operand)
  | nc (x : Operand)
  | store (t : TypeId) (x v : Operand)
  | ext (x : Operand) (i : Nat)
  | ia (t : TypeId) (x i : Operand)
  | not (x : Operand)
  | rest

def cls : Op → K1
  | .move x => .mv x
  | .assign x => .mv x
  | .load t x => .load t x
  | .binOp op _ x y _ => .bin op x y
  | .call c => .call c
  | .fieldAddr s x f => .fa s x f
  | .pick c a b => .pick c a b
  | .nilCheck x => .nc x
  | .store t x v => .store t x v
  | .extract x i => .ext x i
  | .indexAddr t x i => .ia t x i
  | .unOp .not _ x => .not x
  | _ => .rest

def evO (E : Env) (T : TT) : Operand → Option Value
  | .tmp k => match T.t.get k with
    | some v => some v
    | none => some undef
  | .const v => match plainV v with
    | true => some v
    | false => none
  | .global g => match Nat.blt g E.G with
    | true => some (.pointer (some ⟨g, 0, none⟩))
    | false => none
  | .func f => some (.func (.func f) #[] #[])

def evL (E : Env) (T : TT) : List Operand → Option (List Value)
  | [] => some []
  | x :: r => match evO E T x with
    | some v => match evL E T r with
      | some l => some (v :: l)
      | none => none
    | none => none

/-- Whole numbers of one kind. -/
def intBin (op : BinOp) (k : IntKind) (a b : Int) : Option Value :=
  match op with
  | .add => some (.int k (k.wrap (a + b)))
  | .sub => some (.int k (k.wrap (a - b)))
  | .mul => some (.int k (k.wrap (a * b)))
  | .eql => some (.bool (a == b))
  | .neq => some (.bool (a != b))
  | .lss => some (.bool (a < b))
  | .leq => some (.bool (a ≤ b))
  | .gtr => some (.bool (a > b))
  | .geq => some (.bool (a ≥ b))
  | _ => none

def oMv (E : Env) (T : TT) (x : Operand) : AR := match evO E T x with
  | some v => some (.val v, none)
  | none => none
def oLoad (E : Env) (T : TT) (A : AH) (t : TypeId) (x : Operand) : AR := match evO E T x with
  | some p => match aload E.P t p A with
    | some v => some (.val v, none)
    | none => none
  | none => none
def oBin2 (k : IntKind) (op : BinOp) (a b : Int) : AR := match intBin op k a b with
  | some v => some (.val v, none)
  | none => none
def oBin (E : Env) (o : Oper) (T : TT) (A : AH) (op : BinOp) (x y : Operand) : AR := match evO E T x with
  | some (.int j a) => match evO E T y with
    | some (.int k b) => match decide (j = k) with
      | true => match oBin2 j op a b with
        | some r => some r
        | none => arest E o T A
      | false => arest E o T A
    | _ => arest E o T A
  | _ => arest E o T A
def oCallF (E : Env) (o : Oper) (T : TT) (A : AH) (g : FuncId) (args : Array Operand) : AR := match E.P.funcs[g]? with
  | some fn => match fn.body with
    | some _ => match evL E T args.toList with
      | some l => some (.enter g l, none)
      | none => none
    | none => arest E o T A
  | none => none
def oCall (E : Env) (o : Oper) (T : TT) (A : AH) (c : Call) : AR := match c.callee with
  | .value (.func g) => oCallF E o T A g c.args
  | _ => arest E o T A
def oFa (E : Env) (T : TT) (s : TypeId) (x : Operand) (f : Nat) : AR := match evO E T x with
  | some p => asV (afieldAddr E.P s p f)
  | none => none
def oPick (E : Env) (T : TT) (c a b : Operand) : AR := match evO E T c with
  | some (.bool true) => oMv E T a
  | some (.bool false) => oMv E T b
  | _ => none
def oNc (E : Env) (o : Oper) (T : TT) (A : AH) (x : Operand) : AR := match evO E T x with
  | some (.pointer (some a)) => some (.val (.pointer (some a)), none)
  | some _ => arest E o T A
  | none => none
def oStore (E : Env) (T : TT) (A : AH) (t : TypeId) (x v : Operand) : AR := match evO E T x with
  | some p => match evO E T v with
    | some u => asU (astore E.P t p u A)
    | none => none
  | none => none
def oExt (E : Env) (T : TT) (x : Operand) (i : Nat) : AR := match evO E T x with
  | some (.tuple ⟨vs⟩) => asV vs[i]?
  | _ => none
def oIa (E : Env) (T : TT) (t : TypeId) (x i : Operand) : AR := match evO E T x with
  | some p => match evO E T i with
    | some u => asV (aindexAddr E.P t p u)
    | none => none
  | none => none
def oNot (E : Env) (T : TT) (x : Operand) : AR := match evO E T x with
  | some (.bool true) => some (.val (.bool false), none)
  | some (.bool false) => some (.val (.bool true), none)
  | _ => none

def aop (E : Env) (o : Oper) (T : TT) (A : AH) : AR :=
  match cls o.op with
  | .mv x => oMv E T x
  | .load t x => oLoad E T A t x
  | .bin op x y => oBin E o T A op x y
  | .call c => oCall E o T A c
  | .fa s x f => oFa E T s x f
  | .pick c a b => oPick E T c a b
  | .nc x => oNc E o T A x
  | .store t x v => oStore E T A t x v
  | .ext x i => oExt E T x i
  | .ia t x i => oIa E T t x i
  | .not x => oNot E T x
  | .rest => arest E o T A

def yieldedT (ops : List Oper) (T : TT) (j : Nat) : Option Bool :=
  match ops[j]? with
  | some o => match o.dst with
    | some d => match Nat.blt d T.n, T.get d with
      | true, .bool b => some b
      | _, _ => none
    | none => none
  | none => none

def wantedT (ops : List Oper) (o : Oper) (T : TT) : Bool :=
  match o.guard with
  | none => true
  | some (j, want) => match yieldedT ops T j with
    | some b => b == want
    | none => false

inductive AX where
  | normal
  | ret
  | exit (id : Nat)

@[irreducible] def bigLow : Nat := 1152921504606846976

inductive Task where
  | code (c : Code) (ro : Option Nat) (T : TT) (ds : List Nat) (A : AH)
  | fn (g : FuncId) (args : List Value) (A : AH)
  | round (l : Nat) (args : List Value) (A : AH)

inductive Out where
  | code (x : AX) (T : TT) (ds : List Nat) (A : AH)
  | val (v : Value) (A : AH)

abbrev Self := Task → Option Out

/-- A call's end: what it made is forgotten where nothing leads to it and nothing elder was changed. -/
def callEnd (A : AH) (r : Option Out) : Option (Value × Option AH) := match r with
  | some (.val v A') =>
    match plainV v && Nat.ble A.next A'.low with
    | true => some (v, none)
    | false => some (v, some { A' with low := min A.low A'.low })
  | _ => none
def roundEnd (r : Option Out) : Option (Value × Option AH) := match r with
  | some (.val v A') => some (v, some A')
  | _ => none

/-- An operation, calls taken in. -/
def opRun (self : Self) (E : Env) (o : Oper) (T : TT) (A : AH) : Option (Value × Option AH) :=
  match aop E o T A with
  | some (.val v, none) => some (v, none)
  | some (.val v, some A1) => match Nat.blt A1.next 1099511627775 with
    | true => some (v, some A1)
    | false => none
  | some (.enter g args, none) => callEnd A (self (.fn g args { A with low := bigLow }))
  | some (.round l args, none) => roundEnd (self (.round l args A))
  | _ => none

def orA (A : AH) (B : Option AH) : AH := match B with
  | some A' => A'
  | none => A

def opsRun (self : Self) (E : Env) (all : List Oper) : List Oper → TT → AH → Option (TT × AH)
  | [], T, A => some (T, A)
  | o :: rest, T, A =>
    match wantedT all o T with
    | false => opsRun self E all rest (T.put o.dst undef) A
    | true => match opRun self E o T A with
      | some (v, none) => opsRun self E all rest (T.put o.dst v) A
      | some (v, some A') => opsRun self E all rest (T.put o.dst v) A'
      | none => none

/-! ### A region that draws its order -/
def dstsOf (ops : List Oper) : List Nat := ops.filterMap (·.dst)
def distinct : List Nat → Bool
  | [] => true
  | x :: r => !(memF x r) && distinct r
def edgesTo (o : Oper) : List Nat := (o.after.toList.filter (Region.binds .any)).map (·.on)
def placeOf (k : Nat) : List Oper → Nat → Option Nat
  | [], _ => none
  | o :: r, i => match o.dst with
    | some d => match Nat.beq d k with
      | true => some i
      | false => placeOf k r (i + 1)
    | none => placeOf k r (i + 1)
/-- Each temporary of the region that an operation looks at is before it by an edge. -/
def orderOk (ops : List Oper) : List Oper → Bool
  | [] => true
  | o :: r =>
    ((o.op.operands.toList.all fun x => match x with
      | .tmp k => match placeOf k ops 0 with
        | some i => memF i (edgesTo o)
        | none => true
      | _ => true) &&
    (match o.guard with
      | some (j, _) => memF j (edgesTo o)
      | none => true)) && orderOk ops r

/-- What each operation came to: its value, and whether it changed memory. -/
def drawRun (self : Self) (E : Env) (all : List Oper) : List Oper → TT → AH → Option (TT × AH × List (Value × Bool) × List AH)
  | [], T, A => some (T, A, [], [A])
  | o :: rest, T, A =>
    match wantedT all o T with
    | false => match drawRun self E all rest (T.put o.dst undef) A with
      | some (T', A', is, As) => some (T', A', (undef, false) :: is, As)
      | none => none
    | true => match opRun self E o T A with
      | some (v, none) => match drawRun self E all rest (T.put o.dst v) A with
        | some (T', A', is, As) => some (T', A', (v, false) :: is, As)
        | none => none
      | some (v, some A1) => match drawRun self E all rest (T.put o.dst v) A1 with
        | some (T', A', is, As) => some (T', A', (v, true) :: is, A :: As)
        | none => none
      | none => none

mutual
def eqV : Value → Value → Bool
  | .bool a, .bool b => a == b
  | .int j a, .int k b => decide (j = k) && decide (a = b)
  | .string a, .string b => decide (a = b)
  | .pointer a, .pointer b => decide (a = b)
  | .slice a n c, .slice b m d => decide (a = b) && Nat.beq n m && Nat.beq c d
  | .map a, .map b => decide (a = b)
  | .func f a b, .func g c d => decide (f = g) && eqA a c && eqA b d
  | .nilFunc, .nilFunc => true
  | .iface t v, .iface u w => Nat.beq t u && eqV v w
  | .nilIface, .nilIface => true
  | .agg a, .agg b => eqA a b
  | .tuple a, .tuple b => eqA a b
  | _, _ => false
def eqA : Array Value → Array Value → Bool
  | ⟨a⟩, ⟨b⟩ => eqL a b
def eqL : List Value → List Value → Bool
  | [], [] => true
  | a :: r, b :: s => eqV a b && eqL r s
  | _, _ => false
end

/-- The operations before each one, as bits. -/
def predsOf : List Oper → Nat → List Nat → List Nat
  | [], _, acc => acc.reverse
  | o :: r, i, acc => predsOf r (i + 1) ((edgesTo o).foldl (fun s e => match Nat.blt e i with
      | true => Nat.lor s (Nat.lor (Nat.pow 2 e) (acc.getD (i - 1 - e) 0))
      | false => s) 0 :: acc)

def edgesBack : List Oper → Nat → Bool
  | [], _ => true
  | o :: r, i => (edgesTo o).all (fun e => Nat.blt e i) && edgesBack r (i + 1)

def hasBit (s i : Nat) : Bool := Nat.beq (Nat.land (Nat.shiftRight s i) 1) 1

/-- The places of the operations that change memory. -/
def writersOf : List (Value × Bool) → Nat → List Nat
  | [], _ => []
  | (_, true) :: r, i => i :: writersOf r (i + 1)
  | (_, false) :: r, i => writersOf r (i + 1)

def chainOk (preds : List Nat) : List Nat → Bool
  | [] => true
  | [_] => true
  | a :: b :: r => hasBit (preds.getD b 0) a && chainOk preds (b :: r)

/-- Where an operation may meet memory: after how many of those that change it, at least and at most. -/
def winLo (pi : Nat) (ws : List Nat) : Nat := (ws.filter fun w => hasBit pi w).length
def winHi (preds : List Nat) (i : Nat) (ws : List Nat) : Nat := (ws.filter fun w => !(hasBit (preds.getD w 0) i)).length

def sameAt (self : Self) (E : Env) (o : Oper) (T : TT) (v : Value) : List AH → Bool
  | [] => true
  | A :: r => (match opRun self E o T A with
    | some (u, none) => eqV u v
    | _ => false) && sameAt self E o T v r

def winOk (self : Self) (E : Env) (all : List Oper) (preds ws : List Nat) (As : List AH) (T : TT) : List Oper → List (Value × Bool) → Nat → Bool
  | o :: r, (v, b) :: is, i =>
    (match b, wantedT all o T with
      | false, true =>
        let lo := winLo (preds.getD i 0) ws
        let hi := winHi preds i ws
        sameAt self E o T v ((As.drop lo).take (hi + 1 - lo))
      | _, _ => true) && winOk self E all preds ws As T r is (i + 1)
  | _, _, _ => true

def drawOk (self : Self) (E : Env) (ops : List Oper) (T : TT) (is : List (Value × Bool)) (As : List AH) : Bool :=
  match writersOf is 0 with
  | [] => true
  | ws =>
    let preds := predsOf ops 0 []
    chainOk preds ws && winOk self E ops preds ws As T ops is 0

/-! ### A region in which something stands aside
What a side operation makes, no other operation knows before the join: it is made on a memory of its own. -/
inductive Kd where
  | main
  | side
  | join

structure Ent where
  i : Nat
  o : Oper
  k : Kd

structure Res where
  i : Nat
  v : Value
  w : Bool

/-- What a side memory may hold, and tell. -/
def sideObj : Option AObj → Bool
  | some (.cells c _ _ _) => plainL c
  | none => true
  | _ => false
def sideV (n : Nat) : Value → Bool
  | .pointer (some ⟨b, _, none⟩) => Nat.ble n b
  | .slice (some ⟨b, _, none⟩) _ c => Nat.ble n b && isEx c
  | v => plainV v
/-- The side's objects, from its first name on. -/
def joinGo (AX : AH) : Nat → Nat → AH → Option AH
  | 0, _, _ => none
  | f + 1, id, A => match Nat.blt id AX.next with
    | false => some { A with next := AX.next }
    | true => match sideObj (AX.get id) with
      | true => joinGo AX f (id + 1) { A with t := A.t.set 40 id (AX.get id) }
      | false => none
def joinA (A AX : AH) : Option AH := match Nat.blt AX.next (A.next + 64) with
  | true => joinGo AX 64 A.next A
  | false => none

def sideStart (A : AH) : AH := { t := .leaf, next := A.next, low := bigLow }

/-- A region, its operations in an order of ours: their values, the memories between those that change it, the side's memories. -/
def canonRun (self : Self) (E : Env) (all : List Oper) : List Ent → TT → AH → Option (Nat × AH) → Option (TT × AH × List Res × List AH × List AH)
  | [], T, A, AX => some (T, A, [], [A], [])
  | ⟨i, o, .main⟩ :: rest, T, A, AX =>
    match wantedT all o T with
    | false => match canonRun self E all rest (T.put o.dst undef) A AX with
      | some (T', A', is, As, Xs) => some (T', A', ⟨i, undef, false⟩ :: is, As, Xs)
      | none => none
    | true => match opRun self E o T A with
      | some (v, none) => match canonRun self E all rest (T.put o.dst v) A AX with
        | some (T', A', is, As, Xs) => some (T', A', ⟨i, v, false⟩ :: is, As, Xs)
        | none => none
      | some (v, some A1) => match canonRun self E all rest (T.put o.dst v) A1 AX with
        | some (T', A', is, As, Xs) => some (T', A', ⟨i, v, true⟩ :: is, A :: As, Xs)
        | none => none
      | none => none
  | ⟨i, o, .side⟩ :: rest, T, A, AX =>
    match AX.getD (A.next, sideStart A) with
    | (n, X) => match opRun self E o T X with
      | some (v, X1) => match sideV n v with
        | true => match canonRun self E all rest (T.put o.dst v) A (some (n, orA X X1)) with
          | some (T', A', is, As, Xs) => some (T', A', ⟨i, v, false⟩ :: is, As, X :: Xs)
          | none => none
        | false => none
      | none => none
  | ⟨i, o, .join⟩ :: rest, T, A, AX =>
    match AX with
    | none => none
    | some (n, X) => match (match Nat.beq n A.next with | true => joinA A X | false => none) with
      | none => none
      | some J => match wantedT all o T with
        | false => match canonRun self E all rest (T.put o.dst undef) J none with
          | some (T', A', is, As, Xs) => some (T', A', ⟨i, undef, true⟩ :: is, A :: As, X :: Xs)
          | none => none
        | true => match opRun self E o T J with
          | some (v, A1) => match canonRun self E all rest (T.put o.dst v) (orA J A1) none with
            | some (T', A', is, As, Xs) => some (T', A', ⟨i, v, true⟩ :: is, A :: As, X :: Xs)
            | none => none
          | none => none

/-- Each operation's edges lead to those that came before it in this order. -/
def seqOk : List Ent → List Nat → Bool
  | [], _ => true
  | e :: r, seen => (edgesTo e.o).all (fun j => memF j seen) && seqOk r (e.i :: seen)

def isCallOp (o : Oper) : Bool := match o.op with
  | .call c => match c.callee with
    | .value _ => true
    | _ => false
  | _ => false
/-- Is there a call that is not ordered with the operation at this place? -/
def looseAt (preds : List Nat) (pi i : Nat) : List Oper → Nat → Bool
  | [], _ => false
  | o :: r, j => (isCallOp o && !(Nat.beq i j) && !(hasBit (preds.getD j 0) i) && !(hasBit pi j)) || looseAt preds pi i r (j + 1)
def sideCand (all : List Oper) (sides : List Nat) (o : Oper) : Bool :=
  match o.guard with
  | some _ => false
  | none => match o.op with
    | .alloc _ => true
    | .buildSlice _ _ ps => ps.toList.all fun p => match p.2 with | .const v => plainV v | _ => false
    | .convert _ _ (.tmp k) => match placeOf k all 0 with
      | some j => memF j sides
      | none => false
    | _ => false
def sidesOf (all : List Oper) (preds : List Nat) : List Oper → Nat → List Nat → List Nat
  | [], _, acc => acc.reverse
  | o :: r, i, acc => match sideCand all acc o && (edgesTo o).all (fun e => memF e acc) && looseAt preds (preds.getD i 0) i all 0 with
    | true => sidesOf all preds r (i + 1) (i :: acc)
    | false => sidesOf all preds r (i + 1) acc
/-- The first operation that comes behind one aside. -/
def joinOf (sides : List Nat) : List Oper → Nat → Nat
  | [], i => i
  | o :: r, i => match !(memF i sides) && (edgesTo o).any (fun e => memF e sides) with
    | true => i
    | false => joinOf sides r (i + 1)
def entsOf : List Oper → Nat → List Ent
  | [], _ => []
  | o :: r, i => ⟨i, o, .main⟩ :: entsOf r (i + 1)
def canonOf (ops : List Oper) (sides : List Nat) (r : Nat) : List Ent :=
  (entsOf ops 0).filter (fun e => !(memF e.i sides) && Nat.blt e.i r) ++
  ((entsOf ops 0).filter (fun e => memF e.i sides)).map (fun e => ⟨e.i, e.o, .side⟩) ++
  ((entsOf ops 0).filter (fun e => !(memF e.i sides) && Nat.ble r e.i)).map (fun e => ⟨e.i, e.o, match Nat.beq e.i r with | true => .join | false => .main⟩)
def flaggedOf : List Res → List Nat
  | [] => []
  | ⟨i, _, true⟩ :: r => i :: flaggedOf r
  | _ :: r => flaggedOf r
def winOkC (self : Self) (E : Env) (all : List Oper) (preds ws : List Nat) (As : List AH) (T : TT) : List Ent → List Res → Bool
  | ⟨i, o, .main⟩ :: r, ⟨_, v, b⟩ :: is =>
    (match b, wantedT all o T with
      | false, true =>
        let lo := winLo (preds.getD i 0) ws
        let hi := winHi preds i ws
        sameAt self E o T v ((As.drop lo).take (hi + 1 - lo))
      | _, _ => true) && winOkC self E all preds ws As T r is
  | _ :: r, _ :: is => winOkC self E all preds ws As T r is
  | _, _ => true
/-- What looks at something aside comes behind the join; nothing aside is guarded. -/
def asideOk (ops : List Oper) (preds sides : List Nat) (r : Nat) (e : Ent) : Bool :=
  match e.k with
  | .side => e.o.guard.isNone && (edgesTo e.o).all (fun j => memF j sides) && e.o.op.operands.toList.all (fun x => match x with
    | .tmp k => match placeOf k ops 0 with
      | some j => memF j sides
      | none => false
    | _ => true)
  | .join => true
  | .main => !((edgesTo e.o).any (fun j => memF j sides)) || hasBit (preds.getD e.i 0) r
def sideIdx (ops : List Oper) (sides : List Nat) : List Nat := ((entsOf ops 0).filter (fun e => memF e.i sides)).map (·.i)
/-- A region of which something stands aside. -/
def asideStep (self : Self) (E : Env) (ops : List Oper) (preds sides : List Nat) (r : Nat) (T : TT) (ds : List Nat) (A : AH) : Option Out :=
  match canonOf ops sides r with
  | canon =>
    match seqOk canon [] && distinct (canon.map (·.i)) && (List.range ops.length).all (fun i => memF i (canon.map (·.i))) && chainOk preds (sideIdx ops sides) && (sideIdx ops sides).all (fun x => hasBit (preds.getD r 0) x) && canon.all (asideOk ops preds sides r) && Nat.blt r ops.length && !(memF r sides) with
    | false => none
    | true => match canonRun self E ops canon T A none with
      | some (T', A', is, As, _) =>
        match chainOk preds (flaggedOf is) && winOkC self E ops preds (flaggedOf is) As T' canon is && As.all (fun X => Nat.ble A.next X.next && Nat.blt X.next 1099511627775) with
        | true => some (.code .normal T' ds A')
        | false => none
      | none => none

def takeAll : List Nat → AH → Option AH
  | [], A => some A
  | D :: r, A => match A.get D with
    | some (.obj (.deferred (some []))) => takeAll r (A.put D (.obj (.deferred none)))
    | _ => none

def aresults (P : Program) : List ResultVar → TT → AH → Option (List Value)
  | [], _, _ => some []
  | .tmp k :: r, T, A => match aresults P r T A with
    | some l => some (T.get k :: l)
    | none => none
  | .cell a ty :: r, T, A => match aload P ty (T.get a) A, aresults P r T A with
    | some v, some l => some (v :: l)
    | _, _ => none

def setAll : TT → List (Nat × Value) → TT
  | T, [] => T
  | T, (k, v) :: r => setAll (T.put (some k) v) r

/-- The loop's record, the block for its deferred calls. -/
def enterL (ro : Option Nat) (ds : List Nat) (A : AH) : Option (Nat × List Nat × AH) :=
  match ro with
  | none => some (A.next, A.next :: ds, A.add (.obj (.deferred (some []))))
  | some l => match A.get l with
    | some (.loop r _) => some (r.defers, ds, A)
    | _ => none

def rangeEnd (self : Self) (ro : Option Nat) (L : Nat) (T : TT) (ds : List Nat) (r : Option Out) : Option Out :=
  match r with
  | some (.val _ A3) =>
    match A3.get L with
    | some (.loop r T0) =>
      match r.state with
      | .busy => none
      | _ =>
        match r.pending with
        | none => some (.code .normal T ds (A3.put L (.loop { r with state := .exhausted } T0)))
        | some c => self (.code c ro T ds (A3.put L (.loop { r with state := .exhausted } T0)))
    | _ => none
  | _ => none

def hasBody (P : Program) (h : Nat) : Bool := match P.funcs[h]? with
  | some fn => fn.body.isSome
  | none => false

def rangeRun (self : Self) (E : Env) (g : Operand) (ps : Array Tmp) (assign body : Code) (ro : Option Nat) (T : TT) (ds : List Nat) (A : AH) : Option Out :=
  match okX E g, evT T g with
  | true, .func (.func h) ⟨first⟩ ⟨captured⟩ =>
    match hasBody E.P h with
    | true =>
      match enterL ro ds A with
      | some (D, ds', A1) =>
        match Nat.blt (A1.next + 1) 1099511627775 with
        | true => rangeEnd self ro A1.next T ds' (self (.fn h (first ++ [.func (.yield A1.next) #[] #[]] ++ captured)
            (A1.add (.loop { state := .ready, pending := none, fn := 0, tmps := #[], params := ps, assign := assign, body := body, defers := D } T))))
        | false => none
      | none => none
    | false => none
  | _, _ => none

def seqStep (self : Self) (ro : Option Nat) (b : Code) (r : Option Out) : Option Out := match r with
  | some (.code .normal T' ds' A') => self (.code b ro T' ds' A')
  | r => r
def condStep (self : Self) (E : Env) (x : Operand) (a b : Code) (ro : Option Nat) (T : TT) (ds : List Nat) (A : AH) : Option Out := match evO E T x with
  | some (.bool true) => self (.code a ro T ds A)
  | some (.bool false) => self (.code b ro T ds A)
  | _ => none
def blockStep (id : Nat) (r : Option Out) : Option Out := match r with
  | some (.code (.exit id') T' ds' A') => match Nat.beq id' id with
    | true => some (.code .normal T' ds' A')
    | false => some (.code (.exit id') T' ds' A')
  | r => r
def regionStep (self : Self) (E : Env) (ops : List Oper) (T : TT) (ds : List Nat) (A : AH) : Option Out := match opsRun self E ops ops T A with
  | some (T', A') => some (.code .normal T' ds A')
  | none => none
def drawStep (self : Self) (E : Env) (ops : List Oper) (T : TT) (ds : List Nat) (A : AH) : Option Out :=
  match distinct (dstsOf ops) && (orderOk ops ops && edgesBack ops 0) with
  | true =>
    match sidesOf ops (predsOf ops 0 []) ops 0 [] with
    | [] => match drawRun self E ops ops T A with
      | some (T', A', is, As) => match drawOk self E ops T' is As with
        | true => some (.code .normal T' ds A')
        | false => none
      | none => none
    | x :: xs => asideStep self E ops (predsOf ops 0 []) (x :: xs) (joinOf (x :: xs) ops 0) T ds A
  | false => none

def codeStep (self : Self) (E : Env) (c : Code) (ro : Option Nat) (T : TT) (ds : List Nat) (A : AH) : Option Out :=
  match c with
  | .skip => some (.code .normal T ds A)
  | .region _ ops false => regionStep self E ops.toList T ds A
  | .region _ ops true => drawStep self E ops.toList T ds A
  | .seq a b => seqStep self ro b (self (.code a ro T ds A))
  | .cond x a b => condStep self E x a b ro T ds A
  | .block id a => blockStep id (self (.code a ro T ds A))
  | .loop a => seqStep self ro (.loop a) (self (.code a ro T ds A))
  | .rangeFunc g ps assign body => rangeRun self E g ps assign body ro T ds A
  | .exit id => some (.code (.exit id) T ds A)
  | .scope a => self (.code a ro T ds A)
  | .label _ => some (.code .normal T ds A)
  | .ret => some (.code .ret T ds A)
  | .goto _ => none
  | .refuse _ => none

def fnStep (self : Self) (E : Env) (g : FuncId) (args : List Value) (A : AH) : Option Out :=
  match E.P.funcs[g]? with
  | some fn => match fn.body with
    | some c =>
      match Nat.ble (max args.length fn.ntmps) 4000 with
      | true =>
        match self (.code c none { t := TT.ofList args 0 .leaf, n := max args.length fn.ntmps } [] A) with
        | some (.code x T' ds A') =>
          match x with
          | .exit _ => none
          | _ =>
            match takeAll ds A' with
            | some A2 => match aresults E.P fn.results.toList T' A2 with
              | some [v] => some (.val v A2)
              | some vs => some (.val (.tuple ⟨vs⟩) A2)
              | none => none
            | none => none
        | _ => none
      | false => none
    | none => none
  | none => none

def roundStep (self : Self) (l : Nat) (args : List Value) (A : AH) : Option Out :=
  match A.get l with
  | some (.loop r T0) =>
    match Nat.beq args.length r.params.size with
    | false => none
    | true =>
      match self (.code r.assign (some l) (setAll T0 (r.params.toList.zip args)) [] A) with
      | some (.code .normal T1 [] A1) =>
        match A1.get l with
        | some (.loop r1 T1') =>
          match r1.state with
          | .ready =>
            match self (.code r.body (some l) T1 [] (A1.put l (.loop { r1 with state := .busy } T1'))) with
            | some (.code x _ [] A2) =>
              match A2.get l with
              | some (.loop r2 T2') =>
                match x with
                | .normal => some (.val (.bool true) (A2.put l (.loop { r2 with state := .ready, pending := none } T2')))
                | .ret => some (.val (.bool false) (A2.put l (.loop { r2 with state := .done, pending := some .ret } T2')))
                | .exit id => some (.val (.bool false) (A2.put l (.loop { r2 with state := .done, pending := some (.exit id) } T2')))
              | _ => none
            | _ => none
          | _ => none
        | _ => none
      | _ => none
  | _ => none

def exStep (self : Self) (E : Env) : Task → Option Out
  | .code c ro T ds A => codeStep self E c ro T ds A
  | .fn g args A => fnStep self E g args A
  | .round l args A => roundStep self l args A

def ex (E : Env) : Nat → Task → Option Out
  | 0, _ => none
  | f + 1, k => exStep (ex E f) E k

end Go.Ex
