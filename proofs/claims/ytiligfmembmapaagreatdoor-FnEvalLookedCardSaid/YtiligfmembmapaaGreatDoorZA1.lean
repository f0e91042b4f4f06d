/- A reader of the model's code over plain values: it says what a function computes, with no memory in sight. What it says is shown to hold of the model in the texts behind it. -/
import Derived.Calls
import Derived.KernelRfl
import Derived.Laws.BytesArg
import Derived.Laws.AppendOwn
import Derived.Laws.OwnMore
import Derived.Below
import Derived.Tactics
import Derived.WalkKit
import Derived.WideLaws
import Derived.WalkLawsBesides
import Derived.Laws.BytesString
import Derived.Laws.Small
import Derived.Laws.StructEq
import Derived.Laws.Strings
namespace Go.Proofs.YtiligfmembmapaaGreatDoor.Abs
set_option linter.unusedVariables false
open Go

/-- A string's byte at a place. -/
def bt (s : ByteArray) (i : Int) : Int := if h : i.toNat < s.size then ((s[i.toNat]'h).toNat : Int) else 0
/-! ### 1. Values -/
inductive Ty where
  | int (k : IntKind)
  | bool
  | str
  | unit
  | pair (a b : Ty)
  | agg (t : Ty)
  | slice (e : TypeId) (t : Ty)
  | err      -- an error: is it nil?
  deriving DecidableEq
@[reducible] def Ty.den : Ty → Type
  | .int _ => Int
  | .bool => Bool
  | .str => ByteArray
  | .unit => Unit
  | .pair a b => a.den × b.den
  | .agg t => t.den
  | .slice _ t => List t.den
  | .err => Bool
def Ty.dflt : (t : Ty) → t.den
  | .int _ => (0 : Int)
  | .bool => false
  | .str => (⟨#[]⟩ : ByteArray)
  | .unit => ()
  | .pair a b => (a.dflt, b.dflt)
  | .agg t => t.dflt
  | .slice _ _ => []
  | .err => true
/-- How many cells. -/
def Ty.sz : Ty → Nat
  | .unit => 0
  | .pair a b => a.sz + b.sz
  | .agg t => t.sz
  | _ => 1
def cast? {t : Ty} (s : Ty) (x : t.den) : Option s.den := if h : t = s then some (h ▸ x) else none

/-- What stands in a slot. -/
inductive SV where
  | undef
  | nilS
  | val (t : Ty) (x : t.den)
  | row (r : Nat)
  | ptr (r : Nat) (s : Ty) (path : List Nat)
  | eptr (t : Ty) (x : t.den)
  | rptr (r : Nat) (s : Ty) (i : Int) (path : List Nat)
  | tail (r : Nat) (i : Int)      -- what of a row stands from i on
  | fn (g : Nat) (caps : List SV)
  | tup (l : List SV)
  | strct (l : List SV)
/-- What a slot may lead to: a variable in memory; a row of the call's own. -/
inductive Res where
  | box (t : Ty) (c : SV)
  | row (e : TypeId) (t : Ty) (xs : List t.den) (fr : Bool)
  | old (e : TypeId) (t : Ty) (xs : List t.den)
abbrev Tab := List (Nat × Res)
structure St where
  slots : List SV
  res : Tab
  nx : Nat
  n0 : Nat

def slot (l : List SV) : Nat → SV
  | 0 => match l with | x :: _ => x | [] => .undef
  | n + 1 => match l with | _ :: r => slot r n | [] => .undef
def setSlot : List SV → Nat → SV → List SV
  | [], _, _ => []
  | _ :: r, 0, v => v :: r
  | x :: r, n + 1, v => x :: setSlot r n v
def getR : Tab → Nat → Option Res
  | [], _ => none
  | (k, v) :: l, r => match Nat.beq k r with | true => some v | false => getR l r
def delR : Tab → Nat → Tab
  | [], _ => []
  | (k, v) :: l, r => match Nat.beq k r with | true => delR l r | false => (k, v) :: delR l r
def setR (l : Tab) (r : Nat) (v : Res) : Tab := (r, v) :: delR l r

/-! ### 2. Fields -/
def offF : Ty → Nat → Option (Nat × Ty)
  | .pair a _, 0 => some (0, a)
  | .pair a b, n + 1 => (offF b n).map fun p => (a.sz + p.1, p.2)
  | _, _ => none
def offP : Ty → List Nat → Option (Nat × Ty)
  | t, [] => some (0, t)
  | .agg t, f :: p => (offF t f).bind fun q => (offP q.2 p).map fun q' => (q.1 + q'.1, q'.2)
  | _, _ :: _ => none
def getF : (t : Ty) → t.den → Nat → Option SV
  | .pair a _, x, 0 => some (.val a x.1)
  | .pair _ b, x, n + 1 => getF b x.2 n
  | _, _, _ => none
/-- A record's fields, each for itself. -/
def fieldsOf : (t : Ty) → t.den → List SV
  | .pair a b, x => .val a x.1 :: fieldsOf b x.2
  | _, _ => []
def spread : SV → SV
  | .val (.agg t) x => .strct (fieldsOf t x)
  | v => v
def svGet : SV → Nat → Option SV
  | .val (.agg t) x, f => getF t x f
  | .strct l, f => l[f]?
  | _, _ => none
def svGetP : List Nat → SV → Option SV
  | [], v => some v
  | f :: p, v => (svGet v f).bind (svGetP p)
def svSetP : List Nat → SV → SV → Option SV
  | [], _, u => some (spread u)
  | f :: p, v, u => match spread v with
    | .strct l => (l[f]?).bind fun z => (svSetP p z u).bind fun z' => some (.strct (l.set f z'))
    | _ => none
def getP : List Nat → (t : Ty) → t.den → Option SV
  | [], t, x => some (.val t x)
  | f :: p, .agg t, x => match getF t x f with
    | some (.val s y) => getP p s y
    | _ => none
  | _ :: _, _, _ => none
def putF : (t : Ty) → t.den → Nat → ((s : Ty) → s.den → Option s.den) → Option t.den
  | .pair a _, x, 0, g => (g a x.1).bind fun y => some (y, x.2)
  | .pair _ b, x, n + 1, g => (putF b x.2 n g).bind fun y => some (x.1, y)
  | _, _, _, _ => none
def putP : List Nat → (t : Ty) → t.den → ((s : Ty) → Option s.den) → Option t.den
  | [], t, _, u => u t
  | f :: p, .agg t, x, u => putF t x f fun s y => putP p s y u
  | _ :: _, _, _, _ => none

/-- A slot's content as one plain value of a type that is known. -/
def toPairs (g : (t : Ty) → SV → Option t.den) : (t : Ty) → List SV → Option t.den
  | .pair a b, x :: l => (g a x).bind fun u => (toPairs g b l).bind fun v => some (u, v)
  | .unit, [] => some ()
  | _, _ => none
def toVal (res : Tab) : Nat → (t : Ty) → SV → Option t.den
  | 0, _, _ => none
  | _ + 1, t, .val s x => cast? t x
  | _ + 1, .slice _ _, .nilS => some []
  | _ + 1, t, .row r => match getR res r with
    | some (.row e s xs _) => cast? (t := .slice e s) t xs
    | some (.old e s xs) => cast? (t := .slice e s) t xs
    | _ => none
  | d + 1, .agg t, .strct l => toPairs (toVal res d) t l
  | _, _, _ => none
/-- The rows that a slot's content leads to: they are shared from now on. -/
def rowsIn : Nat → SV → List Nat
  | 0, _ => []
  | _ + 1, .row r => [r]
  | d + 1, .strct l => l.flatMap (rowsIn d)
  | _, _ => []

/-! ### 3. What is known of the program -/
/-- The shape in which a result comes back. -/
inductive Sh where
  | val (t : Ty)
  | row (e : TypeId) (t : Ty) (fr : Bool)
  | unit
  | pair (a b : Sh)
  | strct (s : Sh)
  | ptr (t : Ty)     -- a variable of the call's own
@[reducible] def Sh.den : Sh → Type
  | .val t => t.den
  | .row _ t _ => List t.den
  | .unit => Unit
  | .pair a b => a.den × b.den
  | .strct s => s.den
  | .ptr t => t.den
/-- Which of two readings a call takes. -/
structure Sub where
  yes : Nat
  no : Nat
  dec : Tab → List SV → Option Bool
structure FnI where
  g : Nat
  fn : Func
  sh : Sh          -- the results, one behind the other
  bx : Sh          -- what the variables hold behind the call that were handed on
  own : List Bool  -- which parameters hand a row over
  live : List (Nat × List Nat)   -- ahead of which regions which slots are still wanted
  rb : Bool := false             -- do rows that were handed over come back?
  prim : Option (List SV → Tab → Option (sh.den × bx.den)) := none   -- what it says, where that is shown otherwise
  sub : List (Nat × Sub) := []    -- calls in it that have two readings
structure Env where
  ty : List (Nat × Ty)
  by_ : List (Nat × Nat)      -- how many bytes an element of a type has
  fns : List (Nat × FnI)
  eqs : List (Nat × Ty) := []     -- records that may be compared
  tails : List (Nat × Nat) := []  -- where a row's tail is wanted as such
  sub : List (Nat × Sub) := []
def nth {α : Type} : List (Nat × α) → Nat → Option α
  | [], _ => none
  | (k, v) :: l, r => match Nat.beq k r with | true => some v | false => nth l r

/-! ### 4. One operation: what stands in its slot behind it (K is told), what becomes of what slots lead to -/
abbrev Up := List (Nat × Option Res)
def applyU : Tab → Up → Tab
  | res, [] => res
  | res, (r, some v) :: u => applyU (setR res r v) u
  | res, (r, none) :: u => applyU (delR res r) u
/-- Rows that are shared from now on. -/
def freeze (res : Tab) (l : List Nat) : Up := l.filterMap fun r => match getR res r with
  | some (.row e t xs false) => some (r, some (.row e t xs true))
  | _ => none

def oldOf (e : TypeId) (t : Ty) (xs : List t.den) : Bool → Option Res
  | true => some (.old e t xs)
  | false => none
def plainB : SV → Bool
  | .val _ _ => true
  | _ => false
def dfltSV : Ty → SV
  | .slice _ _ => .nilS
  | .agg t => .strct (go t)
  | t => .val t t.dflt
where
  go : Ty → List SV
  | .pair a b => dfltSV a :: go b
  | _ => []
/-- Does a slot's content fit a variable's type? -/
def fits (res : Tab) : Nat → Ty → SV → Bool
  | 0, _, _ => false
  | _ + 1, t, .val s _ => decide (s = t)
  | _ + 1, .slice _ _, .nilS => true
  | _ + 1, t, .row r => match getR res r with
    | some (.row e s _ _) => decide (Ty.slice e s = t)
    | some (.old e s _) => decide (Ty.slice e s = t)
    | _ => false
  | d + 1, .agg t, .strct l => go (fits res d) t l
  | _, _, _ => false
where
  go (g : Ty → SV → Bool) : Ty → List SV → Bool
  | .pair a b, x :: l => g a x && go g b l
  | .unit, [] => true
  | _, _ => false

def eqB : (t : Ty) → t.den → t.den → Bool
  | .int _, x, y => (x : Int) == y
  | .bool, x, y => (x : Bool) == y
  | .str, x, y => (x : ByteArray) == y
  | .unit, _, _ => true
  | .pair a b, x, y => eqB a x.1 y.1 && eqB b x.2 y.2
  | .agg t, x, y => eqB t x y
  | .slice _ _, _, _ => false
  | .err, _, _ => false
def noSlice : Ty → Bool
  | .pair a b => noSlice a && noSlice b
  | .agg t => noSlice t
  | .slice _ _ => false
  | .err => false
  | _ => true

/-- Results as slots' contents; rows among them get numbers from n on. -/
def mkSV : (s : Sh) → s.den → Nat → SV × Up × Nat
  | .val t, x, n => (.val t x, [], n)
  | .row e t fr, xs, n => (.row n, [(n, some (.row e t xs fr))], n + 1)
  | .unit, _, n => (.undef, [], n)
  | .strct s, x, n => let (l, u, m) := go s x n; (.strct l, u, m)
  | .pair _ _, _, n => (.undef, [], n)
  | .ptr t, x, n => (.ptr n t [], [(n, some (.box t (spread (.val t x))))], n + 1)
where
  go : (s : Sh) → s.den → Nat → List SV × Up × Nat
  | .pair a b, x, n =>
    let (v, u, m) := mkSV a x.1 n
    let (l, u', m') := go b x.2 m
    (v :: l, u ++ u', m')
  | _, _, n => ([], [], n)
def mkList (s : Sh) (x : s.den) (n : Nat) : List SV × Up × Nat := mkSV.go s x n
def ofSV (res : Tab) : (s : Sh) → SV → Option s.den
  | .val t, v => toVal res 9 t v
  | .row e t fr, .row r => match getR res r with
    | some (.row e' s xs fr') => match (fr == fr') with
      | true => cast? (t := .slice e' s) (.slice e t) xs
      | false => none
    | _ => none
  | .strct s, .strct l => go s l
  | _, _ => none
where
  go : (s : Sh) → List SV → Option s.den
  | .pair a b, v :: l => (ofSV res a v).bind fun x => (go b l).bind fun y => some (x, y)
  | .unit, [] => some ()
  | _, _ => none

section
variable {R : Type} (E : Env) (call : (I : FnI) → List SV → Tab → Option (I.sh.den × I.bx.den))

def sameOp : Operand → Operand → Bool
  | .tmp a, .tmp b => Nat.beq a b
  | .const (.int _ a), .const (.int _ b) => decide (a = b)
  | _, _ => false
def place (i : Nat) : List Nat → Nat → Option Nat
  | [], _ => none
  | x :: l, n => match Nat.beq x i with | true => some n | false => place i l (n + 1)
def hasN (l : List Nat) (n : Nat) : Bool := match place n l 0 with | some _ => true | none => false
def meets (l m : List Nat) : Bool := l.any (hasN m)
def hitB (o : Option Nat) (j : Nat) : Bool := match o with | some i => Nat.beq i j | none => false
/-- Numbers of what is led to, in the order in which they are met. -/
def addId (r : Nat) (l : List Nat) : List Nat := match place r l 0 with
  | some _ => l
  | none => l ++ [r]
def idsIn : Nat → SV → List Nat → List Nat
  | 0, _, l => l
  | _ + 1, .row r, l => addId r l
  | _ + 1, .ptr r _ _, l => addId r l
  | _ + 1, .rptr r _ _ _, l => addId r l
  | _ + 1, .tail r _, l => addId r l
  | d + 1, .fn _ caps, l => caps.foldl (fun l v => idsIn d v l) l
  | d + 1, .tup vs, l => vs.foldl (fun l v => idsIn d v l) l
  | d + 1, .strct vs, l => vs.foldl (fun l v => idsIn d v l) l
  | _, _, l => l
def idsRes (res : Tab) : Nat → Nat → List Nat → List Nat
  | 0, _, l => l
  | d + 1, j, l => match l[j]? with
    | none => l
    | some r => match getR res r with
      | some (.box _ c) => idsRes res d (j + 1) (idsIn 9 c l)
      | _ => idsRes res d (j + 1) l
def upTo : Nat → List Nat
  | 0 => []
  | n + 1 => upTo n ++ [n]
def reachOn (res : Tab) (vs : List SV) (l : List Nat) : List Nat := idsRes res 40 0 (vs.foldl (fun l v => idsIn 9 v l) l)
def reach (res : Tab) (vs : List SV) : List Nat := reachOn res vs []
/-- The same by others' numbers: a variable's content; a slot's. -/
def mapO (g : SV → Option SV) : List SV → Option (List SV)
  | [] => some []
  | v :: l => (g v).bind fun v' => (mapO g l).bind fun l' => some (v' :: l')
def renameT (f : Nat → Option Nat) : Nat → SV → Option SV
  | 0, _ => none
  | _ + 1, .val t x => some (.val t x)
  | _ + 1, .nilS => some .nilS
  | _ + 1, .row r => match f r with | some j => some (.row j) | none => none
  | d + 1, .strct l => match mapO (renameT f d) l with | some l' => some (.strct l') | none => none
  | _, _ => none
def rename (f : Nat → Option Nat) : Nat → SV → SV
  | 0, _ => .undef
  | _ + 1, .row r => match f r with | some j => .row j | none => .undef
  | _ + 1, .ptr r s p => match f r with | some j => .ptr j s p | none => .undef
  | _ + 1, .rptr r s i p => match f r with | some j => .rptr j s i p | none => .undef
  | _ + 1, .tail r i => match f r with | some j => .tail j i | none => .undef
  | d + 1, .fn g caps => .fn g (caps.map (rename f d))
  | d + 1, .tup vs => .tup (vs.map (rename f d))
  | d + 1, .strct l => match mapO (renameT f d) l with | some l' => .strct l' | none => .undef
  | _, v => v
def renTab (res : Tab) (f : Nat → Option Nat) : List Nat → Nat → Tab
  | [], _ => []
  | r :: l, j => match getR res r, hitB (f r) j with
    | some (.box t c), true => match renameT f 9 c with
      | some c' => (j, .box t c') :: renTab res f l (j + 1)
      | none => renTab res f l (j + 1)
    | some v, true => (j, v) :: renTab res f l (j + 1)
    | _, _ => renTab res f l (j + 1)
/-- What is handed on: plain values, pointers, rows that are given away. -/
def valArg (res : Tab) (own : Bool) (t : Option Ty) (v : SV) : Option (SV × List Nat) := match v with
  | .val s x => some (.val s x, [])
  | .ptr r s p => some (.ptr r s p, [])
  | .eptr s x => some (.eptr s x, [])
  | .rptr r s i p => some (.rptr r s i p, [])
  | .fn g caps => some (.fn g caps, [])
  | .undef => some (.undef, [])
  | .tup _ => none
  | .tail _ _ => none
  | v => match own, t with
    | true, _ => some (v, [])
    | false, some t => (toVal res 9 t v).bind fun x => some (.val t x, rowsIn 9 v)
    | false, none => none
def valAll (res : Tab) : List (Option Ty) → List Bool → List SV → Option (List SV × List Nat)
  | _, _, [] => some ([], [])
  | ts, os, v :: l => (valArg res (os.headD false) (ts.headD none) v).bind fun (v', fr) => (valAll res ts.tail os.tail l).bind fun (l', fr') => some (v' :: l', fr ++ fr')
/-- The types of what comes back. -/
def shTy : Sh → Option Ty
  | .val t => some t
  | .row e t _ => some (.slice e t)
  | .strct s => (go s).map .agg
  | _ => none
where
  go : Sh → Option Ty
  | .pair a b => (shTy a).bind fun t => (go b).map fun u => .pair t u
  | .unit => some .unit
  | _ => none
def shTys : Sh → List (Option Ty)
  | .pair a b => shTy a :: shTys b
  | _ => []
/-- What the variables hold behind a call; a row that was handed over is gone. -/
def backs (rb : Bool) : Tab → List SV → List (Option Ty) → Option (List (Option Res))
  | [], [], _ => some []
  | [], _ :: _, _ => none
  | (_, .box t _) :: l, vs, ts => match vs, ts with
    | v :: vs, some s :: ts => if s = t then (backs rb l vs ts).bind fun u => some (some (.box t v) :: u) else none
    | _, _ => none
  | (_, .row _ _ _ _) :: l, vs, ts => match rb with
    | true => match vs, ts with
      | .row _ :: vs, _ :: ts => (backs rb l vs ts).bind fun u => some (none :: u)
      | _, _ => none
    | false => (backs rb l vs ts).bind fun u => some (none :: u)
  | _ :: l, vs, ts => (backs rb l vs ts).bind fun u => some (none :: u)
/-- Which rows are those that were handed over (new number, place in the table). -/
def comes (rb : Bool) : Tab → List SV → List (Nat × Nat)
  | [], _ => []
  | (_, .box _ _) :: l, _ :: vs => comes rb l vs
  | (k, .row _ _ _ _) :: l, vs => match rb with
    | true => match vs with
      | .row m :: vs => (m, k) :: comes rb l vs
      | _ => []
    | false => comes rb l vs
  | (_, .old _ _ _) :: l, vs => comes rb l vs
  | _ :: _, _ => []
def getU : Up → Nat → Option Res → Option Res
  | [], _, x => x
  | (k, v) :: l, r, x => match Nat.beq k r with | true => getU l r v | false => getU l r x
def onceB : List Nat → Bool
  | [] => true
  | r :: l => !(hasN l r) && onceB l
/-- They stand under their old numbers again. -/
def moves (un : Up) (ids : List Nat) : List (Nat × Nat) → Up
  | [] => []
  | (m, k) :: l => match getU un m none, ids[k]? with
    | some x, some r => (m, none) :: (r, some x) :: moves un ids l
    | _, _ => moves un ids l
def retSV : List SV → SV
  | [v] => v
  | l => .tup l
/-- Does nothing of what was looked at stay with what comes back? -/
def cleanB : Sh → Bool
  | .val t => noSlice t
  | .row _ t fr => noSlice t && !fr
  | .unit => true
  | .pair a b => cleanB a && cleanB b
  | .strct s => cleanB s
  | .ptr t => noSlice t
def callKey (g key : Nat) (args : List SV) (res : Tab) (r0 : Nat) (K : SV → Up → Option R) : Option R :=
  match nth E.fns key with
  | none => none
  | some I => match Nat.beq I.g g with
   | false => none
   | true =>
    match valAll res (I.fn.params.toList.map fun T => nth E.ty T) I.own args with
    | none => none
    | some (args', fr) =>
      let ids := reach res args'
      let tab := renTab res (fun r => place r ids 0) ids 0
      match Nat.beq tab.length ids.length, Nat.ble ids.length r0, meets fr ids with
      | true, true, false => (call I (args'.map (rename (fun r => place r ids 0) 9)) tab).bind fun z =>
        match mkList I.sh z.1 r0 with
        | (vs, u, n) => match mkList I.bx z.2 n with
          | (bs, u', n') => match backs I.rb tab bs (shTys I.bx), Nat.ble n' (r0 + 64) && onceB ((comes I.rb tab bs).map (·.1) ++ (comes I.rb tab bs).filterMap fun p => ids[p.2]?) with
            | some ub, true => K (retSV vs) ((match cleanB I.sh && cleanB I.bx with | true => [] | false => freeze res fr) ++ (ids.zip ub ++ (u ++ u')) ++ moves (u ++ u') ids (comes I.rb tab bs))
            | _, _ => none
      | _, _, _ => none
def callFn (g : Nat) (args : List SV) (res : Tab) (r0 : Nat) (K : SV → Up → Option R) : Option R :=
  match nth E.sub g with
  | none => callKey E call g g args res r0 K
  | some s => (s.dec res args).bind fun b => if b = true then callKey E call g s.yes args res r0 K else callKey E call g s.no args res r0 K

/-- A record's nil slices become rows of the call's own. -/
def ground : Ty → SV → Nat → SV × Up × Nat
  | .slice e t, .nilS, n => (.row n, [(n, some (.row e t [] false))], n + 1)
  | .agg t, .strct l, n => match go t l n with
    | (l', u, m) => (.strct l', u, m)
  | _, v, n => (v, [], n)
where
  go : Ty → List SV → Nat → List SV × Up × Nat
  | .pair a b, v :: l, n => match ground a v n with
    | (v', u, m) => match go b l m with
      | (l', u', m') => (v' :: l', u ++ u', m')
  | _, l, n => (l, [], n)
def intOf : SV → Option (IntKind × Int)
  | .val (.int k) n => some (k, n)
  | _ => none
/-- A slice's elements, whoever holds them. -/
def listOf (res : Tab) (e : TypeId) (t : Ty) (v : SV) : Option (List t.den) := toVal res 1 (.slice e t) v

def binInt (op : BinOp) (k : IntKind) (a b : Int) (K : SV → Up → Option R) : Option R :=
  match op with
  | .add => K (.val (.int k) (k.wrap (a + b))) []
  | .sub => K (.val (.int k) (k.wrap (a - b))) []
  | .mul => K (.val (.int k) (k.wrap (a * b))) []
  | .quo => if b = 0 then none else K (.val (.int k) (k.wrap (a.tdiv b))) []
  | .rem => if b = 0 then none else K (.val (.int k) (a.tmod b)) []
  | .and | .or | .xor | .andNot => K (.val (.int k) (Go.bits op k a b)) []
  | .eql => K (.val .bool (a == b)) []
  | .neq => K (.val .bool (a != b)) []
  | .lss => K (.val .bool (decide (a < b))) []
  | .leq => K (.val .bool (decide (a ≤ b))) []
  | .gtr => K (.val .bool (decide (a > b))) []
  | .geq => K (.val .bool (decide (a ≥ b))) []
  | .shl => if b < 0 then none else K (.val (.int k) (k.wrap (a * 2 ^ min b.toNat k.bits))) []
  | .shr => if b < 0 then none else K (.val (.int k) (a.fdiv (2 ^ min b.toNat k.bits))) []
def binStr (op : BinOp) (a b : ByteArray) (K : SV → Up → Option R) : Option R :=
  match op with
  | .add => if a.size + b.size ≤ 9223372036854775807 then K (.val .str (a ++ b)) [] else none
  | .eql => K (.val .bool (a.toList == b.toList)) []
  | .neq => K (.val .bool (!(a.toList == b.toList))) []
  | .lss => K (.val .bool (Op.bytesLess a.toList b.toList)) []
  | .leq => K (.val .bool (Op.bytesLess a.toList b.toList || a.toList == b.toList)) []
  | .gtr => K (.val .bool (!(Op.bytesLess a.toList b.toList || a.toList == b.toList))) []
  | .geq => K (.val .bool (!Op.bytesLess a.toList b.toList)) []
  | _ => none
def binOp2 (op : BinOp) (T : TypeId) (x y : SV) (K : SV → Up → Option R) : Option R :=
  match x, y with
  | .val (.int k) a, .val (.int k') b => match op with
    | .shl | .shr => binInt op k a b K
    | _ => if k = k' then binInt op k a b K else none
  | .val .str a, .val .str b => binStr op a b K
  | .val .bool a, .val .bool b => match op, nth E.ty T with
    | .eql, some .bool => K (.val .bool (a == b)) []
    | .neq, some .bool => K (.val .bool (!(a == b))) []
    | _, _ => none
  | x, y => match nth E.eqs T with
    | some t => match toVal [] 9 t x, toVal [] 9 t y, op with
      | some a, some b, .eql => K (.val .bool (eqB t a b)) []
      | some a, some b, .neq => K (.val .bool (!(eqB t a b))) []
      | _, _, _ => none
    | none => none
def nilOp : Operand → Bool
  | .const .nilIface => true
  | _ => false
def binErr (op : BinOp) (T : TypeId) (x : SV) (K : SV → Up → Option R) : Option R :=
  match nth E.ty T, x with
  | some .err, .val .err b => match op with
    | .eql => K (.val .bool b) []
    | .neq => K (.val .bool (Bool.not b)) []
    | _ => none
  | _, _ => none
def cutStr (s : ByteArray) (lo hi : Option Int) (K : SV → Up → Option R) : Option R :=
  match lo, hi with
  | none, none => K (.val .str s) []
  | none, some h => if 0 ≤ h then (if h ≤ s.size then K (.val .str (s.extract 0 h.toNat)) [] else none) else none
  | some l, none => if 0 ≤ l then (if l ≤ s.size then K (.val .str (s.extract l.toNat s.size)) [] else none) else none
  | some l, some h => if 0 ≤ h then (if h ≤ s.size then (if 0 ≤ l then (if l ≤ h then K (.val .str (s.extract l.toNat h.toNat)) [] else none) else none) else none) else none
def cutList (e : TypeId) (t : Ty) (xs : List t.den) (lo hi : Option Int) (u : Up) (K : SV → Up → Option R) : Option R :=
  match lo, hi with
  | none, none => K (.val (.slice e t) xs) u
  | none, some h => if 0 ≤ h then (if h ≤ xs.length then K (.val (.slice e t) (xs.take h.toNat)) u else none) else none
  | some l, none => if 0 ≤ l then (if l ≤ xs.length then K (.val (.slice e t) (xs.drop l.toNat)) u else none) else none
  | some l, some h => if 0 ≤ h then (if h ≤ xs.length then (if 0 ≤ l then (if l ≤ h then K (.val (.slice e t) ((xs.take h.toNat).drop l.toNat)) u else none) else none) else none) else none
def optInt : Option SV → Option (Option Int)
  | none => some none
  | some v => (intOf v).bind fun (_, n) => some (some n)
def sliceSV (ty : Ty) (lo hi : Option SV) (x : SV) (res : Tab) (r0 : Nat) (K : SV → Up → Option R) : Option R :=
  match optInt lo, optInt hi, ty, x with
  | some l, some h, .str, .val .str s => cutStr s l h K
  | some none, some (some h), .slice e0 t0, .row r => match getR res r with
    | some (.row e t xs false) => if Ty.slice e t = .slice e0 t0 then (if 0 ≤ h then (if h ≤ xs.length then K (.row r0) [(r, none), (r0, some (.row e t (xs.take h.toNat) false))] else none) else none) else none
    | some (.row e t xs true) => if Ty.slice e t = .slice e0 t0 then cutList e t xs none (some h) [] K else none
    | some (.old e t xs) => if Ty.slice e t = .slice e0 t0 then cutList e t xs none (some h) [] K else none
    | _ => none
  | some l, some h, .slice e t, v => match listOf res e t v with
    | some xs => cutList e t xs l h (freeze res (rowsIn 9 v)) K
    | none => none
  | _, _, _, _ => none
def tailHere (E : Env) (T : TypeId) : Option Nat → Bool
  | some d => E.tails.any fun p => Nat.beq p.1 T && Nat.beq p.2 d
  | none => false
def tailSV (lo hi : Option Operand) (ty : Ty) (x : SV) (is : List SV) (res : Tab) (K : SV → Up → Option R) : Option R :=
  match lo, hi, ty, x with
  | some _, none, .slice e0 t0, .row r => match getR res r, is with
    | some (.row e t xs false), [.val (.int _) l] => if Ty.slice e t = .slice e0 t0 then (if 0 ≤ l then (if l < xs.length then K (.tail r l) [] else none) else none) else none
    | _, _ => none
  | _, _, _, _ => none
def buildList (res : Tab) (t : Ty) : List (Nat × SV) → List t.den → Option (List t.den)
  | [], l => some l
  | (i, v) :: ps, l => match Nat.blt i l.length with
    | true => (toVal res 9 t v).bind fun x => buildList res t ps (l.set i x)
    | false => none
def buildFields (res : Tab) : List Ty → List (Nat × SV) → List SV → Option (List SV)
  | _, [], l => some l
  | ts, (i, v) :: ps, l => match ts[i]? with
    | some t => match fits res 9 t v with | true => buildFields res ts ps (l.set i v) | false => none
    | none => none
def fieldTys : Ty → List Ty
  | .pair a b => a :: fieldTys b
  | _ => []
/-- A record all of whose fields are plain is a plain value. -/
def closeUp (t : Ty) (l : List SV) : Option SV := match l.all plainB with
  | true => (toPairs (toVal [] 9) t l).bind fun x => some (.val (.agg t) x)
  | false => some (.strct l)
def foldInt (f : Int → Int → Int) (k : IntKind) : List SV → Int → Option Int
  | [], n => some n
  | .val (.int k') m :: l, n => if k = k' then foldInt f k l (f n m) else none
  | _, _ => none
def lenSV (argTypes : Array TypeId) (v : SV) (res : Tab) (K : SV → Up → Option R) : Option R :=
  match argTypes[0]?.bind (nth E.ty), v with
  | some .str, .val .str s => K (.val (.int .i64) (s.size : Int)) []
  | some (.slice e t), .tail r i => match getR res r with
    | some (.row e' t' xs false) => if Ty.slice e' t' = .slice e t then K (.val (.int .i64) ((xs.length : Int) - i)) [] else none
    | _ => none
  | some (.slice e t), v => match listOf res e t v with
    | some xs => K (.val (.int .i64) (xs.length : Int)) []
    | none => none
  | _, _ => none
def appendSV (argTypes : Array TypeId) (s x : SV) (res : Tab) (r0 : Nat) (K : SV → Up → Option R) : Option R :=
  match argTypes.toList, s with
  | [T, T'], .row r => match nth E.ty T, Nat.beq T T', getR res r with
    | some (.slice e t), true, some (.row e' t' xs fr) => match cast? (t := .slice e' t') (.slice e t) xs, toVal res 9 (.slice e t) x, hasN (rowsIn 9 x) r, nth E.by_ e with
      | some xs, some ys, false, some nb => if ((xs : List t.den).length + (ys : List t.den).length) * nb ≤ 140737488355328 then K (.row r0) (freeze res (rowsIn 9 x) ++ [(r, oldOf e t xs fr), (r0, some (.row e t ((xs : List t.den) ++ (ys : List t.den)) fr))]) else none
      | _, _, _, _ => none
    | _, _, _ => none
  | _, _ => none
def foldSV (f : Int → Int → Int) (v : SV) (l : List SV) (K : SV → Up → Option R) : Option R :=
  match v with
  | .val (.int k) n => match foldInt f k l n with | some m => K (.val (.int k) m) [] | none => none
  | _ => none
def clearSV (argTypes : Array TypeId) (v : SV) (res : Tab) (K : SV → Up → Option R) : Option R :=
  match argTypes[0]?.bind (nth E.ty), v with
  | some (.slice e t), .tail r i => match getR res r with
    | some (.row e' t' xs false) => if Ty.slice e' t' = .slice e t then K .undef [(r, some (.row e' t' (xs.take i.toNat ++ List.replicate (xs.length - i.toNat) t'.dflt) false))] else none
    | _ => none
  | _, _ => none
def builtin2 (b : Builtin) (argTypes : Array TypeId) (T : TypeId) (args : List SV) (res : Tab) (r0 : Nat) (K : SV → Up → Option R) : Option R :=
  match b with
  | .len => match args with | [v] => lenSV E argTypes v res K | _ => none
  | .append => match args with | [s, x] => appendSV E argTypes s x res r0 K | _ => none
  | .min => match args with | v :: l => foldSV (fun x y => if y < x then y else x) v l K | _ => none
  | .max => match args with | v :: l => foldSV (fun x y => if x < y then y else x) v l K | _ => none
  | .clear => match args with | [v] => clearSV E argTypes v res K | _ => none
  | _ => none

def core (o : Oper) (args : List SV) (res : Tab) (r0 : Nat) (K : SV → Up → Option R) : Option R :=
  match o.op, args with
  | .move _, [v] | .assign _, [v] => match v, nth E.ty o.type with
    | .nilS, some (.slice e t) => K (.row r0) [(r0, some (.row e t [] false))]
    | .strct l, some (.agg t) => match ground (.agg t) (.strct l) r0 with
      | (v', u, m) => match Nat.ble m (r0 + 64) with | true => K v' u | false => none
    | _, _ => K v []
  | .pick _ _ _, [c, a, b] => match c, a, b with
    | .val .bool x, .val .bool y, .val .bool z => K (.val .bool (if x = true then y else z)) []
    | .val .bool x, a, b => if x = true then K a [] else K b []
    | _, _, _ => none
  | .alloc T, _ => match nth E.ty T with
    | some t => match ground t (dfltSV t) (r0 + 1) with
      | (c, u, m) => match Nat.ble m (r0 + 64) with | true => K (.ptr r0 t []) (u ++ [(r0, some (.box t c))]) | false => none
    | none => none
  | .box T _, [v] => match nth E.ty T with
    | some t => match fits res 9 t v with
      | true => match ground t (spread v) (r0 + 1) with
        | (c, u, m) => match Nat.ble m (r0 + 64) with | true => K (.ptr r0 t []) (u ++ [(r0, some (.box t c))]) | false => none
      | false => none
    | none => none
  | .build T ps, vs => match nth E.ty T with
    | some (.agg t) => match dfltSV (.agg t) with
      | .strct l => match buildFields res (fieldTys t) ((ps.toList.map (·.1)).zip vs) l with
        | some l => match closeUp t l with | some v => K v [] | none => none
        | none => none
      | _ => none
    | _ => none
  | .buildSlice T n ps, vs => match nth E.ty T with
    | some (.slice e t) => match buildList res t ((ps.toList.map (·.1)).zip vs) (List.replicate n t.dflt), Nat.ble (n * t.sz) 16777216 with
      | some xs, true => K (.row r0) (freeze res (vs.flatMap (rowsIn 9)) ++ [(r0, some (.row e t xs false))])
      | _, _ => none
    | _ => none
  | .load T _, [p] => match nth E.ty T, p with
    | some t, .ptr r s path => if s = t then (match getR res r with
      | some (.box _ c) => match svGetP path c with
        | some (.strct l) => match t with
          | .agg t' => match closeUp t' l with | some v => K v [] | none => none
          | _ => none
        | some v => K v []
        | none => none
      | _ => none) else none
    | some t, .eptr s x => if s = t then K (.val s x) [] else none
    | some t, .rptr r _ i path => match getR res r with
      | some (.row _ u xs _) => match getP path u (xs.getD i.toNat u.dflt) with
        | some (.val s y) => if s = t then K (.val s y) [] else none
        | _ => none
      | _ => none
    | _, _ => none
  | .store T _ _, [p, v] => match nth E.ty T, p with
    | some t, .ptr r s path => if s = t then (match getR res r with
      | some (.box bt c) => match fits res 9 t v, ground t v r0 with
        | true, (v', u, m) => match svSetP path c v', Nat.ble m (r0 + 64) with
          | some c', true => K .undef (u ++ [(r, some (.box bt c'))])
          | _, _ => none
        | false, _ => none
      | _ => none) else none
    | some t, .rptr r _ i path => match getR res r with
      | some (.row e u xs false) => match hasN (rowsIn 9 v) r, toVal res 9 t v with
        | false, some x => match putP path u (xs.getD i.toNat u.dflt) (fun s => cast? s x) with
          | some y => K .undef (freeze res (rowsIn 9 v) ++ [(r, some (.row e u (xs.set i.toNat y) false))])
          | none => none
        | _, _ => none
      | _ => none
    | _, _ => none
  | .nilCheck _, [p] => match p with
    | .ptr _ _ _ | .eptr _ _ | .rptr _ _ _ _ => K p []
    | _ => none
  | .binOp op T _ j _, [x, y] => match nilOp j with
    | true => binErr E op T x K
    | false => binOp2 E op T x y K
  | .unOp op _ _, [x] => match op, x with
    | .neg, .val (.int k) n => K (.val (.int k) (k.wrap (0 - n))) []
    | .not, .val .bool b => K (.val .bool (!b)) []
    | .xor, .val (.int k) n => K (.val (.int k) (Go.bits .xor k (if k.signed then -1 else k.max) n)) []
    | _, _ => none
  | .convert S D _, [x] => match nth E.ty S, nth E.ty D, x with
    | some _, some (.int k), .val (.int _) n => K (.val (.int k) (k.wrap n)) []
    | some _, some .str, .val .str s => K (.val .str s) []
    | some (.slice e (.int .u8)), some .str, v => match listOf res e (.int .u8) v with
      | some xs => K (.val .str (strOfNums xs)) []
      | none => none
    | _, _, _ => none
  | .makeFunc (.func g) first _, vs => match first.size with
    | 0 => K (.fn g vs) []
    | _ => none
  | .makeSlice T l c, [x, _] => match nth E.ty T, sameOp l c, x with
    | some (.slice e t), true, .val (.int _) n => match nth E.by_ e with
      | some nb => if 0 ≤ n then (if n.toNat * nb ≤ 140737488355328 then K (.row r0) [(r0, some (.row e t (List.replicate n.toNat t.dflt) false))] else none) else none
      | none => none
    | _, _, _ => none
  | .slice T _ lo hi mx, x :: is => match nth E.ty T, mx with
    | some ty, none => match tailHere E T o.dst with
      | true => tailSV lo hi ty x is res K
      | false => sliceSV ty (match lo with | some _ => is.head? | none => none) (match hi with | some _ => is.getLast? | none => none) x res r0 K
    | _, _ => none
  | .fieldAddr T _ f, [p] => match nth E.ty T with
    | some (.agg t) => match p with
      | .ptr r s path => match offF t f with
        | some (_, s') => if s = .agg t then K (.ptr r s' (path ++ [f])) [] else none
        | none => none
      | .eptr s x => match cast? (.agg t) x with
        | some x => match getF t x f with
          | some (.val s y) => K (.eptr s y) []
          | _ => none
        | none => none
      | .rptr r s i path => match offF t f with
        | some (_, s') => if s = .agg t then K (.rptr r s' i (path ++ [f])) [] else none
        | none => none
      | _ => none
    | _ => none
  | .field T _ f, [x] => match nth E.ty T with
    | some t => match fits res 9 t x with
      | true => match svGet x f with
        | some v => K v []
        | none => none
      | false => none
    | none => none
  | .indexAddr T _ _, [x, i] => match nth E.ty T, i with
    | some (.slice e t), .val (.int _) n => match x with
      | .row r => match getR res r with
        | some (.row e' u xs fr) => if Ty.slice e' u = .slice e t then (match fr with
          | false => if 0 ≤ n then (if n < xs.length then K (.rptr r t n []) [] else none) else none
          | true => if 0 ≤ n then (if n < xs.length then K (.eptr u (xs.getD n.toNat u.dflt)) [] else none) else none) else none
        | some (.old e' u xs) => if Ty.slice e' u = .slice e t then (if 0 ≤ n then (if n < xs.length then K (.eptr u (xs.getD n.toNat u.dflt)) [] else none) else none) else none
        | _ => none
      | .val s xs => match cast? (.slice e t) xs with
        | some xs => if 0 ≤ n then (if n < (xs : List t.den).length then K (.eptr t (xs.getD n.toNat t.dflt)) [] else none) else none
        | none => none
      | .tail r l => match getR res r with
        | some (.row e' u xs false) => if Ty.slice e' u = .slice e t then (if 0 ≤ n then (if n < (xs.length : Int) - l then K (.rptr r t (l + n) []) [] else none) else none) else none
        | _ => none
      | _ => none
    | _, _ => none
  | .index T _ _, [x, i] => match nth E.ty T, x, i with
    | some .str, .val .str s, .val (.int _) n => if 0 ≤ n then (if n < s.size then K (.val (.int .u8) (bt s n)) [] else none) else none
    | _, _, _ => none
  | .extract _ i, [x] => match x with
    | .tup l => match l[i]? with | some v => K v [] | none => none
    | _ => none
  | .call c, vs => match c.callee, vs with
    | .builtin b, vs => builtin2 E b c.argTypes o.type vs res r0 K
    | .value _, .fn g caps :: as => callFn E call g (as ++ caps) res r0 K
    | _, _ => none
  | _, _ => none

/-! ### 5. The operations of a region, in the text's order -/
def constSV : Value → SV
  | .int k n => .val (.int k) n
  | .bool b => .val .bool b
  | .string s => .val .str s
  | .slice none 0 0 => .nilS
  | _ => .undef
def ev (l : List SV) : Operand → SV
  | .tmp t => slot l t
  | .const v => constSV v
  | .func f => .fn f []
  | .global _ => .undef
def opnds : Op → List Operand
  | .alloc _ => []
  | .move x | .assign x | .box _ x | .load _ x | .nilCheck x | .unOp _ _ x | .convert _ _ x | .fieldAddr _ x _ | .field _ x _ | .extract x _ => [x]
  | .pick c a b => [c, a, b]
  | .build _ ps | .buildSlice _ _ ps => ps.toList.map (·.2)
  | .store _ a v | .binOp _ _ a v _ | .makeSlice _ a v | .indexAddr _ a v | .index _ a v => [a, v]
  | .makeFunc _ first captured => first.toList ++ captured.toList
  | .slice _ x l h m => x :: (l.toList ++ h.toList ++ m.toList)
  | .call c => (match c.callee with | .value f => [f] | _ => []) ++ c.args.toList
  | _ => []
def putS (σ : St) (d : Option Nat) (v : SV) (u : Up) : St :=
  { σ with slots := match d with | some d => setSlot σ.slots d v | none => σ.slots, res := applyU σ.res u }
/-- The part of the table that some values lead to. -/
def restrict (res : Tab) : List Nat → Tab
  | [] => []
  | r :: l => match getR res r with
    | some v => (r, v) :: restrict res l
    | none => restrict res l
/-- What an operation has looked at, and what it has turned. -/
structure Log where
  i : Nat
  see : List Nat
  turn : List Nat
/-- Does it look at nothing but its operands? -/
def blind : Op → Bool
  | .move _ | .assign _ | .nilCheck _ | .unOp _ _ _ | .fieldAddr _ _ _ | .extract _ _ | .makeFunc _ _ _ | .index _ _ _ => true
  | _ => false
def seeOf (o : Oper) (res : Tab) (vs : List SV) : List Nat := match blind o.op with | true => [] | false => reach res vs
def tmpsOf (o : Oper) : List Nat := (opnds o.op).filterMap fun | .tmp t => some t | _ => none
def namesOf (all : Array Oper) (o : Oper) : List Nat := tmpsOf o ++ (match o.guard with | some (j, _) => (match all[j]?.bind (·.dst) with | some d => [d] | none => []) | none => [])
def clash (all : Array Oper) (a b : Log) : Bool := match all[a.i]?, all[b.i]? with
  | some x, some y =>
    let xd := x.dst.toList; let yd := y.dst.toList
    meets xd (yd ++ namesOf all y) || meets yd (namesOf all x) || meets a.turn (b.see ++ b.turn) || meets b.turn a.see
  | _, _ => true
/-- Whatever clashes is in order by an edge. -/
def ordOk (all : Array Oper) (bf : Array Nat) : List Log → Bool
  | [] => true
  | b :: l => (l.all fun a => !(clash all a b) || (bf.getD b.i 0).testBit a.i) && ordOk all bf l   -- the later ones stand first
/-- Edges lead back. -/
def edgesOk (all : Array Oper) : Bool := (List.range all.size).all fun i => match all[i]? with
  | some o => o.after.all fun e => !Region.binds .any e || Nat.blt e.on i
  | none => true
def smallU (r0 : Nat) (see : List Nat) (u : Up) : Bool := u.all fun (r, _) => hasN see r || (Nat.ble r0 r && Nat.blt r (r0 + 64))
def runOps (all : Array Oper) (draw : Bool) (base : Nat) : List (Nat × Oper) → List Log → St → (St → Option R) → Option R
  | [], g, σ, K => match draw with
    | false => K σ
    | true => match ordOk all (Region.before all) g, edgesOk all with | true, true => K σ | _, _ => none
  | (i, o) :: l, g, σ, K =>
    let act := fun (σ : St) (b : Bool) => match b with
      | true =>
        let vs := (opnds o.op).map (ev σ.slots)
        let ids := seeOf o σ.res vs
        core E call o vs (restrict σ.res ids) (base + 64 * i) fun v u => match smallU (base + 64 * i) ids u with
          | true => runOps all draw base l ({ i, see := ids, turn := u.map (·.1) } :: g) (putS σ o.dst v u) K
          | false => none
      | false => runOps all draw base l ({ i, see := [], turn := [] } :: g) (putS σ o.dst (.tup []) []) K
    match o.guard with
    | none => act σ true
    | some (j, want) => match all[j]?.bind (·.dst) with
        | some d => match slot σ.slots d with
          | .val .bool x => if x = true then act { σ with slots := setSlot σ.slots d (.val .bool true) } (true == want) else act { σ with slots := setSlot σ.slots d (.val .bool false) } (false == want)
          | .tup [] => act σ false
          | _ => none
        | none => none
end

/-! ### 6. A function: its code with what stands behind it; one round of k a step -/
inductive Fr where
  | seq (b : Code)
  | block (id : Nat)
  | loop (b : Code)
def keep (live : List Nat) : Nat → List SV → List SV
  | _, [] => []
  | n, v :: l => (match place n live 0 with | some _ => v | none => .undef) :: keep live (n + 1) l
/-- The state with the wanted slots alone, what they lead to numbered anew. -/
def norm (live : List Nat) (σ : St) : St :=
  let sl := keep live 0 σ.slots
  let ids := reachOn σ.res sl (upTo σ.n0)
  let f := fun r => place r ids 0
  { slots := sl.map (rename f 9), res := renTab σ.res f ids 0, nx := ids.length, n0 := σ.n0 }

/-- The rows that come back as rows. -/
def rowsOut1 : Sh → SV → List Nat
  | .row _ _ _, .row r => [r]
  | .ptr _, .ptr r _ _ => [r]
  | .strct s, .strct l => go s l
  | _, _ => []
where
  go : Sh → List SV → List Nat
  | .pair a b, v :: l => rowsOut1 a v ++ go b l
  | _, _ => []
def rowsOut (s : Sh) (l : List SV) : List Nat := rowsOut1.go s l
abbrev RunT := (I : FnI) → {R : Type} → (St → Option R) → Code → List Fr → St → Option R
/-- What the variables hold that were handed on. -/
def boxes (rb : Bool) (res : Tab) : Tab → Option (List SV)
  | [] => some []
  | (j, .box t _) :: l => match getR res j with
    | some (.box t' c) => if t' = t then (boxes rb res l).bind fun cs => some (c :: cs) else none
    | _ => none
  | (j, .row _ _ _ _) :: l => match rb with
    | true => (boxes rb res l).bind fun cs => some (.row j :: cs)
    | false => boxes rb res l
  | _ :: l => boxes rb res l
/-- The rows that come back as parts of plain values. -/
def rowsVal1 : Sh → SV → List Nat
  | .val _, v => rowsIn 9 v
  | .strct s, .strct l => go s l
  | _, _ => []
where
  go : Sh → List SV → List Nat
  | .pair a b, v :: l => rowsVal1 a v ++ go b l
  | _, _ => []
/-- What a function gives. -/
def given (E : Env) (σ : St) : ResultVar → SV
  | .tmp t => slot σ.slots t
  | .cell a T => match slot σ.slots a, nth E.ty T with
    | .ptr r s path, some t => match getR σ.res r with
      | some (.box _ c) => match svGetP path c with | some v => if s = t then v else .undef | none => .undef
      | _ => .undef
    | _, _ => .undef
/-- A result by its shape: one that is let fall; a variable of the call's own; others. -/
def ofTop (n0 : Nat) (res : Tab) : (s : Sh) → SV → Option s.den
  | .unit, v => match v with
    | .undef => none
    | _ => some ()
  | .ptr t, v => match v with
    | .ptr r s' [] => match Nat.ble n0 r, getR res r with
      | true, some (.box t' c) => if s' = t then (if t' = t then toVal [] 9 t c else none) else none
      | _, _ => none
    | _ => none
  | s, v => ofSV res s v
def ofTops (n0 : Nat) (res : Tab) : (s : Sh) → List SV → Option s.den
  | .pair a b, v :: l => (ofTop n0 res a v).bind fun x => (ofTops n0 res b l).bind fun y => some (x, y)
  | .unit, [] => some ()
  | _, _ => none
/-- What comes back to the caller. -/
def fin (E : Env) (I : FnI) (tab : Tab) (σ : St) : Option (I.sh.den × I.bx.den) :=
  let vs := I.fn.results.toList.map (given E σ)
  (ofTops tab.length σ.res I.sh vs).bind fun x => (boxes I.rb σ.res tab).bind fun cs => (ofSV.go σ.res I.bx cs).bind fun y =>
    match onceB (rowsOut I.sh vs ++ rowsOut I.bx cs), meets (rowsOut I.sh vs ++ rowsOut I.bx cs) (rowsVal1.go I.sh vs ++ rowsVal1.go I.bx cs) with
    | true, false => some (x, y)
    | _, _ => none
def bodyOf (f : Func) : Code := match f.body with | some c => c | none => .refuse ""
/-- The first state of a call. -/
def start (I : FnI) (args : List SV) (tab : Tab) : St :=
  { slots := args ++ List.replicate (I.fn.ntmps - args.length) .undef, res := tab, nx := tab.length, n0 := tab.length }
def callOf (E : Env) (rec : RunT) (I : FnI) (args : List SV) (tab : Tab) : Option (I.sh.den × I.bx.den) :=
  match I.prim with
  | some f => f args tab
  | none => rec I (fin E I tab) (bodyOf I.fn) [] (start I args tab)
def leave (I : FnI) (id : Nat) : List Fr → Option (List Fr)
  | [] => none
  | .block j :: S => match Nat.beq j id with | true => some S | false => leave I id S
  | _ :: S => leave I id S
def pop (rec : RunT) (I : FnI) {R : Type} (K : St → Option R) (S : List Fr) (σ : St) : Option R :=
  match S with
  | [] => K σ
  | .seq b :: S => rec I K b S σ
  | .block _ :: S => rec I K .skip S σ
  | .loop b :: S => rec I K (.loop b) S σ
def step (E : Env) (rec : RunT) : RunT := fun I _ K c S σ => match c with
  | .skip => pop rec I K S σ
  | .region id ops draw =>
    let σ := match nth I.live id with | some l => norm l σ | none => σ
    runOps { E with sub := I.sub } (callOf E rec) ops draw σ.nx ((List.range ops.size).zip ops.toList) [] σ fun σ' => pop rec I K S { σ' with nx := σ.nx + 64 * ops.size }
  | .seq a b => rec I K a (.seq b :: S) σ
  | .cond c a b => match ev σ.slots c with
    | .val .bool x => if x = true then rec I K a S σ else rec I K b S σ
    | _ => none
  | .block id b => rec I K b (.block id :: S) σ
  | .loop b => rec I K b (.loop b :: S) σ
  | .exit id => match leave I id S with | some S' => rec I K .skip S' σ | none => none
  | .ret => K σ
  | _ => none
def run (E : Env) (k : Nat) : RunT := Nat.rec (fun _ _ _ _ _ _ => none) (fun _ rec => step E rec) k
def call (E : Env) (k : Nat) (I : FnI) (args : List SV) (tab : Tab) : Option (I.sh.den × I.bx.den) := callOf E (run E k) I args tab
end Go.Proofs.YtiligfmembmapaaGreatDoor.Abs
/- How plain values stand in the model's memory. -/
set_option linter.unusedVariables false
set_option linter.unusedSimpArgs false
namespace Go.Proofs.YtiligfmembmapaaGreatDoor.Abs
open Go Go.RowKit

/-! ### 1. Plain values in cells -/
/-- A cell that may be leaned on (block, place), and what it holds. -/
abbrev Lk := Nat → Nat → Value → Prop
def RK (L : Lk) : (t : Ty) → t.den → List Value → Prop
  | .int k, n, cs => cs = [.int k n]
  | .bool, b, cs => cs = [.bool b]
  | .str, s, cs => cs = [.string s]
  | .unit, _, cs => cs = []
  | .pair a b, x, cs => ∃ c d, cs = c ++ d ∧ RK L a x.1 c ∧ RK L b x.2 d
  | .agg t, x, cs => RK L t x cs
  | .err, b, cs => (b = true ∧ cs = [.nilIface]) ∨ (b = false ∧ ∃ T p, cs = [.iface T p])
  | .slice _ t, xs, cs => ∃ A cap, cs = [.slice A (xs : List t.den).length cap] ∧ xs.length ≤ cap ∧
      (xs ≠ [] → ∃ b o, A = some ⟨b, o, none⟩ ∧ ∀ i (h : i < xs.length), ∃ c, RK L t xs[i] c ∧ ∀ j v, c[j]? = some v → L b (o + i * t.sz + j) v)
theorem RK_len {L : Lk} : ∀ {t : Ty} {x : t.den} {cs : List Value}, RK L t x cs → cs.length = t.sz
  | .int k, n, cs, h => by rw [show cs = _ from h]; rfl
  | .bool, b, cs, h => by rw [show cs = _ from h]; rfl
  | .str, s, cs, h => by rw [show cs = _ from h]; rfl
  | .unit, _, cs, h => by rw [show cs = _ from h]; rfl
  | .pair a b, x, cs, h => by
    obtain ⟨c, d, rfl, h1, h2⟩ := h
    rw [List.length_append, RK_len h1, RK_len h2]
    rfl
  | .agg t, x, cs, h => RK_len (t := t) h
  | .err, b, cs, h => by rcases h with ⟨_, rfl⟩ | ⟨_, T, p, rfl⟩ <;> rfl
  | .slice _ t, xs, cs, h => by
    obtain ⟨A, cap, rfl, _⟩ := h
    rfl
theorem RK_mono {L L' : Lk} (hL : ∀ b o v, L b o v → L' b o v) : ∀ {t : Ty} {x : t.den} {cs : List Value}, RK L t x cs → RK L' t x cs
  | .int k, n, cs, h => h
  | .bool, b, cs, h => h
  | .str, s, cs, h => h
  | .unit, _, cs, h => h
  | .pair a b, x, cs, h => by
    obtain ⟨c, d, rfl, h1, h2⟩ := h
    exact ⟨c, d, rfl, RK_mono hL h1, RK_mono hL h2⟩
  | .agg t, x, cs, h => RK_mono (t := t) hL h
  | .err, _, _, h => h
  | .slice _ t, xs, cs, h => by
    obtain ⟨A, cap, rfl, hc, h⟩ := h
    refine ⟨A, cap, rfl, hc, fun hne => ?_⟩
    obtain ⟨b, o, hA, hh⟩ := h hne
    refine ⟨b, o, hA, fun i hi => ?_⟩
    obtain ⟨c, h1, h2⟩ := hh i hi
    exact ⟨c, RK_mono hL h1, fun j v hj => hL _ _ _ (h2 j v hj)⟩
/-- A value of one cell. -/
def one (v : Value) : Prop := (∀ l, v ≠ .agg l) ∧ ∀ l, v ≠ .tuple l
theorem RK_one {L : Lk} : ∀ {t : Ty} {x : t.den} {cs : List Value}, RK L t x cs → ∀ v ∈ cs, v.oneCell' = true
  | .int k, n, cs, h, v, hv => by
    rw [show cs = _ from h] at hv
    rw [List.mem_singleton.1 hv]
    rfl
  | .bool, b, cs, h, v, hv => by
    rw [show cs = _ from h] at hv
    rw [List.mem_singleton.1 hv]
    rfl
  | .str, s, cs, h, v, hv => by
    rw [show cs = _ from h] at hv
    rw [List.mem_singleton.1 hv]
    rfl
  | .unit, _, cs, h, v, hv => by
    rw [show cs = _ from h] at hv
    cases hv
  | .pair a b, x, cs, h, v, hv => by
    obtain ⟨c, d, rfl, h1, h2⟩ := h
    rcases List.mem_append.1 hv with hv | hv
    · exact RK_one h1 v hv
    · exact RK_one h2 v hv
  | .agg t, x, cs, h, v, hv => RK_one (t := t) h v hv
  | .err, b, cs, h, v, hv => by rcases h with ⟨_, rfl⟩ | ⟨_, T, p, rfl⟩ <;> (rw [List.mem_singleton.1 hv]; rfl)
  | .slice _ t, xs, cs, h, v, hv => by
    obtain ⟨A, cap, rfl, _⟩ := h
    rw [List.mem_singleton.1 hv]
    rfl
/-- The value that some cells make. -/
def mk (t : Ty) (cs : List Value) : Value := match t with
  | .agg _ => .agg cs.toArray
  | _ => cs.headD undef
theorem RK_cells {L : Lk} {t : Ty} {x : t.den} {cs : List Value} (h : RK L t x cs) (ht : t.sz = 1 ∨ ∃ u, t = .agg u) : (mk t cs).cells = cs.toArray := by
  match t, x, h, ht with
  | .int k, n, h, _ => rw [show cs = _ from h]; rfl
  | .bool, b, h, _ => rw [show cs = _ from h]; rfl
  | .str, s, h, _ => rw [show cs = _ from h]; rfl
  | .agg t, x, h, _ => rfl
  | .err, b, h, _ => rcases h with ⟨_, rfl⟩ | ⟨_, T, p, rfl⟩ <;> rfl
  | .slice _ t, xs, h, _ =>
    obtain ⟨A, cap, rfl, _⟩ := h
    rfl
  | .unit, _, h, ht => rcases ht with ht | ⟨u, ht⟩ <;> cases ht
  | .pair a b, x, h, ht =>
    rcases ht with ht | ⟨u, ht⟩
    · obtain ⟨v, rfl⟩ : ∃ v, cs = [v] := List.length_eq_one_iff.1 ((RK_len h).trans ht)
      have := RK_one h v (List.mem_singleton.2 rfl)
      show v.cells = #[v]
      cases v <;> first | rfl | cases this
    · cases ht

/-! ### 2. What is led to -/
inductive G where
  | box (b : Nat) (t : Ty)
  | row (e : TypeId) (t : Ty) (v : Value)

mutual
/-- Cells that hold a field's content, by its type. -/
inductive RT (L : Lk) (γ : Nat → Option G) : Ty → SV → List Value → Prop
  | val {t : Ty} {x : t.den} {cs : List Value} (h : RK L t x cs) : RT L γ t (.val t x) cs
  | nilS {e : TypeId} {t : Ty} : RT L γ (.slice e t) .nilS [.slice none 0 0]
  | row {e : TypeId} {t : Ty} {r : Nat} {v : Value} (h : γ r = some (.row e t v)) : RT L γ (.slice e t) (.row r) [v]
  | strct {t : Ty} {l : List SV} {cs : List Value} (h : RTs L γ t l cs) : RT L γ (.agg t) (.strct l) cs
inductive RTs (L : Lk) (γ : Nat → Option G) : Ty → List SV → List Value → Prop
  | nil : RTs L γ .unit [] []
  | cons {a b : Ty} {v : SV} {l : List SV} {c d : List Value} (h : RT L γ a v c) (k : RTs L γ b l d) : RTs L γ (.pair a b) (v :: l) (c ++ d)
end
mutual
/-- The value that a slot holds. -/
inductive RV (L : Lk) (γ : Nat → Option G) : SV → Value → Prop
  | undef {v : Value} : RV L γ .undef v
  | nilS : RV L γ .nilS (.slice none 0 0)
  | val {t : Ty} {x : t.den} {cs : List Value} (h : RK L t x cs) : RV L γ (.val t x) (mk t cs)
  | row {e : TypeId} {t : Ty} {r : Nat} {v : Value} (h : γ r = some (.row e t v)) : RV L γ (.row r) v
  | ptr {r b o : Nat} {t s : Ty} {p : List Nat} (h : γ r = some (.box b t)) (hp : offP t p = some (o, s)) : RV L γ (.ptr r s p) (.pointer (some ⟨b, o, none⟩))
  | eptr {t : Ty} {x : t.den} {cs : List Value} {b o : Nat} (h : RK L t x cs) (hc : ∀ j v, cs[j]? = some v → L b (o + j) v) : RV L γ (.eptr t x) (.pointer (some ⟨b, o, none⟩))
  | rptr {r b n cap o : Nat} {e : TypeId} {t s : Ty} {i : Int} {p : List Nat} (h : γ r = some (.row e t (.slice (some ⟨b, 0, none⟩) n cap))) (h0 : 0 ≤ i) (hn : i < n) (hp : offP t p = some (o, s)) :
      RV L γ (.rptr r s i p) (.pointer (some ⟨b, i.toNat * t.sz + o, none⟩))
  | tail {r b n cap : Nat} {e : TypeId} {t : Ty} {i : Int} (h : γ r = some (.row e t (.slice (some ⟨b, 0, none⟩) n cap))) (h0 : 0 ≤ i) (hn : i < n) (hc : n ≤ cap) :
      RV L γ (.tail r i) (.slice (some ⟨b, i.toNat * t.sz, none⟩) (n - i.toNat) (cap - i.toNat))
  | fn {g : Nat} {caps : List SV} {vs : List Value} (h : RVs L γ caps vs) : RV L γ (.fn g caps) (.func (.func g) #[] vs.toArray)
  | tup {l : List SV} {vs : List Value} (h : RVs L γ l vs) : RV L γ (.tup l) (.tuple vs.toArray)
  | strct {t : Ty} {l : List SV} {cs : List Value} (h : RTs L γ t l cs) : RV L γ (.strct l) (.agg cs.toArray)
inductive RVs (L : Lk) (γ : Nat → Option G) : List SV → List Value → Prop
  | nil : RVs L γ [] []
  | cons {v : SV} {l : List SV} {u : Value} {us : List Value} (h : RV L γ v u) (k : RVs L γ l us) : RVs L γ (v :: l) (u :: us)
end

/-! ### 3. They stay -/
section
variable {L L' : Lk} {γ γ' : Nat → Option G}
mutual
theorem RT_mono (hL : ∀ b o v, L b o v → L' b o v) (hγ : ∀ r g, γ r = some g → γ' r = some g) : ∀ {t : Ty} {v : SV} {cs : List Value}, RT L γ t v cs → RT L' γ' t v cs
  | _, _, _, .val h => .val (RK_mono hL h)
  | _, _, _, .nilS => .nilS
  | _, _, _, .row h => .row (hγ _ _ h)
  | _, _, _, .strct h => .strct (RTs_mono hL hγ h)
theorem RTs_mono (hL : ∀ b o v, L b o v → L' b o v) (hγ : ∀ r g, γ r = some g → γ' r = some g) : ∀ {t : Ty} {l : List SV} {cs : List Value}, RTs L γ t l cs → RTs L' γ' t l cs
  | _, _, _, .nil => .nil
  | _, _, _, .cons h k => .cons (RT_mono hL hγ h) (RTs_mono hL hγ k)
end
mutual
theorem RV_mono (hL : ∀ b o v, L b o v → L' b o v) (hγ : ∀ r g, γ r = some g → γ' r = some g) : ∀ {v : SV} {u : Value}, RV L γ v u → RV L' γ' v u
  | _, _, .undef => .undef
  | _, _, .nilS => .nilS
  | _, _, .val h => .val (RK_mono hL h)
  | _, _, .row h => .row (hγ _ _ h)
  | _, _, .ptr h hp => .ptr (hγ _ _ h) hp
  | _, _, .eptr h hc => .eptr (RK_mono hL h) fun j v hj => hL _ _ _ (hc j v hj)
  | _, _, .rptr h h0 hn hp => .rptr (hγ _ _ h) h0 hn hp
  | _, _, .tail h h0 hn hc => .tail (hγ _ _ h) h0 hn hc
  | _, _, .fn h => .fn (RVs_mono hL hγ h)
  | _, _, .tup h => .tup (RVs_mono hL hγ h)
  | _, _, .strct h => .strct (RTs_mono hL hγ h)
theorem RVs_mono (hL : ∀ b o v, L b o v → L' b o v) (hγ : ∀ r g, γ r = some g → γ' r = some g) : ∀ {l : List SV} {us : List Value}, RVs L γ l us → RVs L' γ' l us
  | _, _, .nil => .nil
  | _, _, .cons h k => .cons (RV_mono hL hγ h) (RVs_mono hL hγ k)
end
end
theorem RVs_len {L : Lk} {γ : Nat → Option G} : ∀ {l : List SV} {us : List Value}, RVs L γ l us → l.length = us.length
  | _, _, .nil => rfl
  | _, _, .cons _ k => by simp [RVs_len k]
theorem RVs_get {L : Lk} {γ : Nat → Option G} : ∀ {l : List SV} {us : List Value}, RVs L γ l us → ∀ {i : Nat} {v : SV}, l[i]? = some v → ∃ u, us[i]? = some u ∧ RV L γ v u
  | _, _, .nil, i, v, h => by simp at h
  | _, _, .cons (u := u) hv k, 0, v, h => by
    simp at h
    subst h
    exact ⟨u, rfl, hv⟩
  | _, _, .cons hv k, i + 1, v, h => by
    obtain ⟨u, h1, h2⟩ := RVs_get k (i := i) (v := v) (by simpa using h)
    exact ⟨u, by simpa using h1, h2⟩
theorem RTs_len {L : Lk} {γ : Nat → Option G} {t : Ty} {l : List SV} {cs : List Value} (h : RTs L γ t l cs) : cs.length = t.sz := by
  induction h using RTs.rec (motive_1 := fun t _ cs _ => cs.length = t.sz) with
  | val h => exact RK_len h
  | nilS => rfl
  | row h => rfl
  | strct h ih => exact ih
  | nil => rfl
  | cons h k ih1 ih2 => rw [List.length_append, ih1, ih2]; rfl
theorem RT_len {L : Lk} {γ : Nat → Option G} {t : Ty} {v : SV} {cs : List Value} (h : RT L γ t v cs) : cs.length = t.sz := by
  cases h with
  | val h => exact RK_len h
  | nilS => rfl
  | row h => rfl
  | strct h => exact (RTs_len h : _)
end Go.Proofs.YtiligfmembmapaaGreatDoor.Abs
/- The state of a reader over plain values and the model's state beside it. -/
set_option linter.unusedVariables false
set_option linter.unusedSimpArgs false
namespace Go.Proofs.YtiligfmembmapaaGreatDoor.Abs
open Go Go.RowKit

/-! ### 1. What is known of the program's types -/
/-- The cells of a zero value. -/
def zc : Ty → List Value
  | .int k => [.int k 0]
  | .bool => [.bool false]
  | .str => [.string ⟨#[]⟩]
  | .unit => []
  | .pair a b => zc a ++ zc b
  | .agg t => zc t
  | .slice _ _ => [.slice none 0 0]
  | .err => [.nilIface]
def aggB : Ty → Bool
  | .agg _ => true
  | _ => false
def aggD : TypeDesc → Bool
  | .struct _ => true
  | .array _ _ => true
  | _ => false
/-- A variable's type (true: a record's fields in a row). -/
def WfB : Bool → Ty → Bool
  | true, .pair a b => WfB false a && WfB true b
  | true, .unit => true
  | true, _ => false
  | false, .agg t => WfB true t
  | false, .pair _ _ => false
  | false, .unit => false
  | false, _ => true
structure InfoOk (P : Program) (T : TypeId) (t : Ty) : Prop where
  mk ::
  info : ∃ i, P.info? T = some i ∧ i.size = t.sz ∧ ∃ z, i.zero = some z ∧ z.cells.toList = zc t
  agg : ∃ d, P.underlying T = some d ∧ aggD d = aggB t
  wf : WfB false t = true
theorem InfoOk.one {P : Program} {T : TypeId} {t : Ty} (h : InfoOk P T t) : t.sz = 1 ∨ ∃ u, t = .agg u := by
  have := h.wf
  cases t <;> first | (left; rfl) | (right; exact ⟨_, rfl⟩) | (simp [WfB] at this)
def FOk (P : Program) : List Field → Ty → Nat → Prop
  | [], .unit, _ => True
  | f :: fs, .pair a b, o => f.offset = o ∧ f.name ≠ "_" ∧ 0 < a.sz ∧ InfoOk P f.type a ∧ FOk P fs b (o + a.sz)
  | _, _, _ => False
def UnderOk (P : Program) (T : TypeId) : Ty → Prop
  | .int k => P.underlying T = some (.int k)
  | .bool => P.underlying T = some .bool
  | .str => P.underlying T = some .string
  | .slice e t => P.underlying T = some (.slice e) ∧ InfoOk P e t ∧ 0 < t.sz ∧ (t = .int .u8 → P.underlying e = some (.int .u8))
  | .agg t => ∃ fs, P.underlying T = some (.struct fs) ∧ FOk P fs.toList t 0
  | .err => ∃ ms, P.underlying T = some (.interface ms)
  | _ => False
/-- Records of this type are compared field by field. -/
def EqOk (P : Program) (T : TypeId) (t : Ty) : Prop := (∃ s, t = .agg s) ∧ P.eqGuardType P.depth T = false ∧
  ∀ (L : Lk) (x y : t.den) (cs ds : List Value) (w : World), RK L t x cs → RK L t y ds → (Op.equalIn 10000 T (mk t cs) (mk t ds)).run P w = .ok (eqB t x y) w
structure EnvOk (P : Program) (E : Env) : Prop where
  ty : ∀ T t, nth E.ty T = some t → UnderOk P T t ∧ InfoOk P T t
  by_ : ∀ e nb i, nth E.by_ e = some nb → P.info? e = some i → i.bytes = nb ∧ 0 < nb
  fns : ∀ g I, nth E.fns g = some I → P.funcs[I.g]? = some I.fn ∧ I.fn.body.isSome = true ∧ (I.fn.name == "runtime.NumGoroutine") = false
  eqs : ∀ T t, nth E.eqs T = some t → EqOk P T t

/-! ### 2. The two states side by side -/
/-- Cells that are leaned on. -/
def Ln (Pr : Nat → Nat → Prop) (w : World) : Lk := fun b o v => Pr b o ∧ w.cell? ⟨b, o, none⟩ = some v
def blk (γ : Nat → Option G) (r : Nat) : Res → Option Nat
  | .box _ _ => match γ r with
    | some (.box b _) => some b
    | _ => none
  | .row _ _ _ _ => match γ r with
    | some (.row _ _ v) => v.ownBlock
    | _ => none
  | .old _ _ _ => none
/-- The elements' cells. -/
def Els (L : Lk) (t : Ty) (xs : List t.den) (css : List (List Value)) : Prop := css.length = xs.length ∧ ∀ i (h : i < xs.length) (h' : i < css.length), RK L t xs[i] css[i]
def ResOk (L : Lk) (Pr : Nat → Nat → Prop) (γ : Nat → Option G) (w : World) (r : Nat) : Res → Prop
  | .box t c => ∃ b arr T, γ r = some (.box b t) ∧ w.heap[b]? = some (.cells arr T (0, 0)) ∧ RT L γ t c arr.toList
  | .row e t xs fr => ∃ v css, γ r = some (.row e t v) ∧ Els L t xs css ∧ w.ownsRow 0 e t.sz v xs.length css.flatten ∧ (fr = true → ∀ b, v.ownBlock = some b → ∀ o, o < xs.length * t.sz → Pr b o)
  | .old e t xs => ∃ v, γ r = some (.row e t v) ∧ RK L (.slice e t) xs [v]
/-- May this place of a resource's own block be leaned on? -/
def mayLean : Res → Nat → Prop
  | .row _ t xs true, o => o < xs.length * t.sz
  | _, _ => False
structure Inv (w0 : World) (X : Nat → Prop) (Pr0 : Nat → Nat → Prop) (sl : List SV) (get : Nat → Option Res) (γ : Nat → Option G) (Pr : Nat → Nat → Prop) (a : Act) (w : World) : Prop where
  slots : RVs (Ln Pr w) γ sl a.tmps.toList
  defers : a.defers = []
  gs : ∀ r e t v, γ r = some (.row e t v) → ∃ A n c, v = .slice A n c
  wfs : ∀ r b t, γ r = some (.box b t) → WfB false t = true
  res : ∀ r x, get r = some x → ResOk (Ln Pr w) Pr γ w r x
  apart : ∀ r r' x x' b, get r = some x → get r' = some x' → r ≠ r' → blk γ r x = some b → blk γ r' x' ≠ some b
  loose : ∀ r x b, get r = some x → blk γ r x = some b → ∀ o, Pr b o → mayLean x o
  where_ : ∀ r x b, get r = some x → blk γ r x = some b → X b ∨ w0.heap.size ≤ b
  frame : ∀ k, k < w0.heap.size → ¬ X k → w.heap[k]? = w0.heap[k]?
  size : w0.heap.size ≤ w.heap.size
  os : w.os = w0.os
  tape : w.tape = w0.tape
  output : w.output = w0.output
  prIn : ∀ b o, Pr b o → b < w.heap.size
  prOld : ∀ b, b < w0.heap.size → ¬ X b → ∀ o, Pr b o → Pr0 b o
  pr0 : ∀ b o v, Ln Pr0 w0 b o v → Ln Pr w b o v

/-! ### 3. Operands -/
theorem slot_get : ∀ (l : List SV) (n : Nat), slot l n = (l[n]?).getD .undef
  | [], 0 => rfl
  | [], n + 1 => by simp [slot]
  | x :: l, 0 => rfl
  | x :: l, n + 1 => by simp [slot, slot_get l n]
theorem const_ok {L : Lk} {γ : Nat → Option G} : ∀ v : Value, RV L γ (constSV v) v := by
  intro v
  unfold constSV
  split
  · exact RV.val (t := .int _) (cs := [.int _ _]) rfl
  · exact RV.val (t := .bool) (cs := [.bool _]) rfl
  · exact RV.val (t := .str) (cs := [.string _]) rfl
  · exact RV.nilS
  · exact RV.undef
theorem ev_ok {L : Lk} {γ : Nat → Option G} {sl : List SV} {a : Act} (h : RVs L γ sl a.tmps.toList) : ∀ x : Operand, RV L γ (ev sl x) (a.eval x)
  | .tmp t => by
    simp only [ev, slot_get, Act.eval]
    cases hs : sl[t]? with
    | none => exact RV.undef
    | some v =>
      obtain ⟨u, h1, h2⟩ := RVs_get h hs
      have : a.tmps.getD t undef = u := by
        rw [Array.getD_eq_getD_getElem?, ← Array.getElem?_toList, h1]
        rfl
      rw [this]
      exact h2
  | .const v => const_ok v
  | .func f => by
    have := RV.fn (L := L) (γ := γ) (g := f) RVs.nil
    exact this
  | .global _ => RV.undef
theorem evs_ok {L : Lk} {γ : Nat → Option G} {sl : List SV} {a : Act} (h : RVs L γ sl a.tmps.toList) : ∀ xs : List Operand, RVs L γ (xs.map (ev sl)) (xs.map a.eval)
  | [] => .nil
  | x :: xs => .cons (ev_ok h x) (evs_ok h xs)
theorem RVs_set {L : Lk} {γ : Nat → Option G} : ∀ {l : List SV} {us : List Value}, RVs L γ l us → ∀ {d : Nat} {v : SV} {u : Value}, RV L γ v u → RVs L γ (setSlot l d v) (us.set d u)
  | _, _, .nil, _, _, _, _ => .nil
  | _, _, .cons _ k, 0, _, _, hv => .cons hv k
  | _, _, .cons h k, d + 1, _, _, hv => .cons h (RVs_set k hv)

/-! ### 4. An operation that gives a value -/
section
variable {P : Program} {o : Oper} {a : Act} {w w' : World} {next : Act → World → Prop} {Q : Exit → Act → World → Prop} {v : Value} {s : Sem Value}
theorem wp_val (ho : execOp a.eval o = (do pure (.value (← s)))) (hs : s.run P w = .ok v w') (h : next (a.put o.dst v) w') : Oper.wp P o a w next Q := by
  unfold Oper.wp
  rw [ho]
  simp only [Sem.run_bind, hs, Result.andThen_ok, Sem.run_pure]
  exact h
end

/-- What an operation's step owes: from a state to one whose slot holds v and whose table is turned by u. -/
def Owes (P : Program) (w0 : World) (X : Nat → Prop) (Pr0 : Nat → Nat → Prop) (o : Oper) (sl : List SV) (get : Nat → Option Res) (γ : Nat → Option G) (Pr : Nat → Nat → Prop) (r0 : Nat) (a : Act) (w : World) (v : SV) (get' : Nat → Option Res) : Prop :=
  ∀ next Q, (∀ v' γ' Pr' w', RV (Ln Pr' w') γ' v v' → Inv w0 X Pr0 sl get' γ' Pr' a w' → (∀ r, ¬ (r0 ≤ r ∧ r < r0 + 64) → γ' r = γ r) → next (a.put o.dst v') w') → Oper.wp P o a w next Q
section
variable {P : Program} {w0 : World} {X : Nat → Prop} {Pr0 : Nat → Nat → Prop} {o : Oper} {sl : List SV} {get : Nat → Option Res} {γ : Nat → Option G} {Pr : Nat → Nat → Prop} {r0 : Nat} {a : Act} {w : World}
/-- An operation that changes nothing. -/
theorem owes_pure {s : Sem Value} {u : Value} {v : SV} (hI : Inv w0 X Pr0 sl get γ Pr a w) (ho : execOp a.eval o = (do pure (.value (← s)))) (hs : s.run P w = .ok u w) (hv : RV (Ln Pr w) γ v u) :
    Owes P w0 X Pr0 o sl get γ Pr r0 a w v get := fun next Q h => wp_val ho hs (h u γ Pr w hv hI (fun _ _ => rfl))
theorem owes_run {get' : Nat → Option Res} {Pr' : Nat → Nat → Prop} {u : Value} {v : SV} (hI : Inv w0 X Pr0 sl get' γ Pr' a w) (ho : (execOp a.eval o).run P w = .ok (.value u) w) (hv : RV (Ln Pr' w) γ v u) :
    Owes P w0 X Pr0 o sl get γ Pr r0 a w v get' := fun next Q h => by
  unfold Oper.wp
  rw [ho]
  exact h u γ Pr' w hv hI (fun _ _ => rfl)
theorem owes_new {get' : Nat → Option Res} {γ' : Nat → Option G} {Pr' : Nat → Nat → Prop} {w' : World} {u : Value} {v : SV} (hI : Inv w0 X Pr0 sl get' γ' Pr' a w') (ho : (execOp a.eval o).run P w = .ok (.value u) w') (hv : RV (Ln Pr' w') γ' v u)
    (hγ : ∀ r, ¬ (r0 ≤ r ∧ r < r0 + 64) → γ' r = γ r) : Owes P w0 X Pr0 o sl get γ Pr r0 a w v get' := fun next Q h => by
  unfold Oper.wp
  rw [ho]
  exact h u γ' Pr' w' hv hI hγ
end
end Go.Proofs.YtiligfmembmapaaGreatDoor.Abs
/- What is told and what comes of it. -/
set_option linter.unusedVariables false
set_option linter.unusedSimpArgs false
set_option linter.unusedSectionVars false
namespace Go.Proofs.YtiligfmembmapaaGreatDoor.Abs
open Go

abbrev ans : SV → Up → Option (SV × Up) := fun v u => some (v, u)
section
variable {R : Type} {E : Env} {call : (I : FnI) → List SV → Tab → Option (I.sh.den × I.bx.den)} {K : SV → Up → Option R}
theorem binInt_k {op : BinOp} {k : IntKind} {a b : Int} : binInt op k a b K = (binInt op k a b ans).bind fun p => K p.1 p.2 := by
  cases op <;> simp only [binInt] <;> ((repeat' split) <;> first | rfl | (simp_all; done))
theorem binStr_k {op : BinOp} {a b : ByteArray} : binStr op a b K = (binStr op a b ans).bind fun p => K p.1 p.2 := by
  cases op <;> simp only [binStr] <;> ((repeat' split) <;> first | rfl | (simp_all; done))
theorem binOp2_k {op : BinOp} {T : TypeId} {x y : SV} : binOp2 E op T x y K = (binOp2 E op T x y ans).bind fun p => K p.1 p.2 := by
  unfold binOp2
  split
  · split
    · exact binInt_k
    · exact binInt_k
    · split
      · exact binInt_k
      · rfl
  · exact binStr_k
  · split <;> rfl
  · split
    · split <;> rfl
    · rfl
theorem binErr_k {op : BinOp} {T : TypeId} {x : SV} : binErr E op T x K = (binErr E op T x ans).bind fun p => K p.1 p.2 := by
  unfold binErr
  split
  · split <;> rfl
  · rfl
theorem cutStr_k {s : ByteArray} {lo hi : Option Int} : cutStr s lo hi K = (cutStr s lo hi ans).bind fun p => K p.1 p.2 := by
  cases lo <;> cases hi <;> simp only [cutStr] <;> ((repeat' split) <;> first | rfl | (simp_all; done))
theorem cutList_k {e : TypeId} {t : Ty} {xs : List t.den} {lo hi : Option Int} {u : Up} : cutList e t xs lo hi u K = (cutList e t xs lo hi u ans).bind fun p => K p.1 p.2 := by
  cases lo <;> cases hi <;> simp only [cutList] <;> ((repeat' split) <;> first | rfl | (simp_all; done))
theorem ite_k {c : Prop} [Decidable c] {x : Option R} {y : Option (SV × Up)} (h : x = y.bind fun p => K p.1 p.2) : (if c then x else none) = (if c then y else none).bind fun p => K p.1 p.2 := by
  split
  · exact h
  · rfl
theorem sliceSV_k {ty : Ty} {lo hi : Option SV} {x : SV} {res : Tab} {r0 : Nat} : sliceSV ty lo hi x res r0 K = (sliceSV ty lo hi x res r0 ans).bind fun p => K p.1 p.2 := by
  unfold sliceSV
  split
  · exact cutStr_k
  · split
    · exact ite_k (ite_k (ite_k rfl))
    · exact ite_k cutList_k
    · exact ite_k cutList_k
    · rfl
  · split
    · exact cutList_k
    · rfl
  · rfl
theorem tailSV_k {lo hi : Option Operand} {ty : Ty} {x : SV} {is : List SV} {res : Tab} : tailSV lo hi ty x is res K = (tailSV lo hi ty x is res ans).bind fun p => K p.1 p.2 := by
  unfold tailSV
  split
  · split
    · exact ite_k (ite_k (ite_k rfl))
    · rfl
  · rfl
theorem clearSV_k {argTypes : Array TypeId} {v : SV} {res : Tab} : clearSV E argTypes v res K = (clearSV E argTypes v res ans).bind fun p => K p.1 p.2 := by
  unfold clearSV
  split
  · split
    · exact ite_k rfl
    · rfl
  · rfl
theorem lenSV_k {argTypes : Array TypeId} {v : SV} {res : Tab} : lenSV E argTypes v res K = (lenSV E argTypes v res ans).bind fun p => K p.1 p.2 := by
  unfold lenSV
  split
  · rfl
  · split
    · exact ite_k rfl
    · rfl
  · split <;> rfl
  · rfl
theorem appendSV_k {argTypes : Array TypeId} {s x : SV} {res : Tab} {r0 : Nat} : appendSV E argTypes s x res r0 K = (appendSV E argTypes s x res r0 ans).bind fun p => K p.1 p.2 := by
  unfold appendSV
  split
  · split
    · split
      · exact ite_k rfl
      · rfl
    · rfl
  · rfl
theorem foldSV_k {f : Int → Int → Int} {v : SV} {l : List SV} : foldSV f v l K = (foldSV f v l ans).bind fun p => K p.1 p.2 := by
  unfold foldSV
  split
  · split <;> rfl
  · rfl
theorem builtin2_k {b : Builtin} {argTypes : Array TypeId} {T : TypeId} {args : List SV} {res : Tab} {r0 : Nat} : builtin2 E b argTypes T args res r0 K = (builtin2 E b argTypes T args res r0 ans).bind fun p => K p.1 p.2 := by
  unfold builtin2
  split
  · split
    · exact lenSV_k
    · rfl
  · split
    · exact appendSV_k
    · rfl
  · split
    · exact foldSV_k
    · rfl
  · split
    · exact foldSV_k
    · rfl
  · split
    · exact clearSV_k
    · rfl
  · rfl
theorem callKey_k {g key : Nat} {args : List SV} {res : Tab} {r0 : Nat} : callKey E call g key args res r0 K = (callKey E call g key args res r0 ans).bind fun p => K p.1 p.2 := by
  unfold callKey
  split
  · rfl
  · split
    · rfl
    · split
      · rfl
      · dsimp only
        split
        · generalize call _ _ _ = z0
          cases z0 with
          | none => rfl
          | some z =>
            simp only [Option.bind_some]
            split <;> rfl
        · rfl
theorem callFn_k {g : Nat} {args : List SV} {res : Tab} {r0 : Nat} : callFn E call g args res r0 K = (callFn E call g args res r0 ans).bind fun p => K p.1 p.2 := by
  unfold callFn
  split
  · exact callKey_k
  · rename_i s hs
    cases s.dec res args with
    | none => rfl
    | some b =>
      simp only [Option.bind_some]
      split <;> exact callKey_k
theorem core_k {o : Oper} {vs : List SV} {res : Tab} {r0 : Nat} : core E call o vs res r0 K = (core E call o vs res r0 ans).bind fun p => K p.1 p.2 := by
  obtain ⟨dst, op, ty, pos, after, guard⟩ := o
  cases op
  case makeFunc fn first captured => cases fn <;> rcases vs with _ | ⟨v1, _ | ⟨v2, _ | ⟨v3, _ | ⟨v4, vs⟩⟩⟩⟩ <;> first | rfl | (unfold core; dsimp only; repeat' (first | rfl | exact binOp2_k | exact binErr_k | exact builtin2_k | exact sliceSV_k | exact tailSV_k | exact callFn_k | exact cutList_k | refine ite_k ?_ | split))
  all_goals
    rcases vs with _ | ⟨v1, _ | ⟨v2, _ | ⟨v3, _ | ⟨v4, vs⟩⟩⟩⟩ <;> first | rfl | (unfold core; dsimp only; repeat' (first | rfl | exact binOp2_k | exact binErr_k | exact builtin2_k | exact sliceSV_k | exact tailSV_k | exact callFn_k | exact cutList_k | refine ite_k ?_ | split))
theorem core_says {o : Oper} {vs : List SV} {res : Tab} {r0 : Nat} {z : R} (h : core E call o vs res r0 K = some z) : ∃ v u, core E call o vs res r0 ans = some (v, u) ∧ K v u = some z := by
  rw [core_k, Option.bind_eq_some_iff] at h
  obtain ⟨⟨v, u⟩, h1, h2⟩ := h
  exact ⟨v, u, h1, h2⟩
end
end Go.Proofs.YtiligfmembmapaaGreatDoor.Abs
/- Operations that change nothing: what the reader says of them is what the model does. -/
set_option linter.unusedVariables false
set_option linter.unusedSimpArgs false
namespace Go.Proofs.YtiligfmembmapaaGreatDoor.Abs
open Go Go.RowKit

def updG (get : Nat → Option Res) : Up → Nat → Option Res
  | [] => get
  | (r, x) :: u => updG (fun s => if s = r then x else get s) u

theorem int_val {L : Lk} {γ : Nat → Option G} {k : IntKind} {n : Int} : RV L γ (.val (.int k) n) (.int k n) := RV.val (t := .int k) (cs := [.int k n]) rfl
theorem bool_val {L : Lk} {γ : Nat → Option G} {b : Bool} : RV L γ (.val .bool b) (.bool b) := RV.val (t := .bool) (cs := [.bool b]) rfl
theorem str_val {L : Lk} {γ : Nat → Option G} {s : ByteArray} : RV L γ (.val .str s) (.string s) := RV.val (t := .str) (cs := [.string s]) rfl
theorem val_int {L : Lk} {γ : Nat → Option G} {k : IntKind} {n : Int} {u : Value} (h : RV L γ (.val (.int k) n) u) : u = .int k n := by
  cases h with
  | val h => rw [show _ = [Value.int k n] from h]; rfl
theorem val_bool {L : Lk} {γ : Nat → Option G} {b : Bool} {u : Value} (h : RV L γ (.val .bool b) u) : u = .bool b := by
  cases h with
  | val h => rw [show _ = [Value.bool b] from h]; rfl
theorem val_str {L : Lk} {γ : Nat → Option G} {s : ByteArray} {u : Value} (h : RV L γ (.val .str s) u) : u = .string s := by
  cases h with
  | val h => rw [show _ = [Value.string s] from h]; rfl

section
variable {P : Program} {w : World} {L : Lk} {γ : Nat → Option G} {v : SV} {u : Up}
theorem binInt_ok {op : BinOp} {k : IntKind} {a b : Int} {T : TypeId} (h : binInt op k a b ans = some (v, u)) : u = [] ∧ ∃ x, (binOp op T (.int k a) (.int k b)).run P w = .ok x w ∧ RV L γ v x := by
  cases op <;> simp only [binInt, ans] at h
  case quo =>
    split at h
    · cases h
    · cases h
      exact ⟨rfl, _, by simp [go_sem, Op.intDiv, *], int_val⟩
  case rem =>
    split at h
    · cases h
    · cases h
      exact ⟨rfl, _, by simp [go_sem, Op.intDiv, *], int_val⟩
  case shl =>
    split at h
    · cases h
    · cases h
      exact ⟨rfl, _, by rw [binOp_shl]; simp [Op.shift, *], int_val⟩
  case shr =>
    split at h
    · cases h
    · cases h
      exact ⟨rfl, _, by rw [binOp_shr]; simp [Op.shift, *], int_val⟩
  all_goals
    cases h
    refine ⟨rfl, _, ?_, by first | exact int_val | exact bool_val⟩
    simp [go_sem, Op.intArith] <;> rfl
theorem shift_ok {op : BinOp} {k k' : IntKind} {a b : Int} {T : TypeId} (ho : op = .shl ∨ op = .shr) (h : binInt op k a b ans = some (v, u)) : u = [] ∧ ∃ x, (binOp op T (.int k a) (.int k' b)).run P w = .ok x w ∧ RV L γ v x := by
  rcases ho with rfl | rfl <;> simp only [binInt, ans] at h <;> split at h <;> cases h
  · exact ⟨rfl, _, by rw [binOp_shl]; simp [Op.shift, *], int_val⟩
  · exact ⟨rfl, _, by rw [binOp_shr]; simp [Op.shift, *], int_val⟩
theorem binStr_ok {op : BinOp} {a b : ByteArray} {T : TypeId} (h : binStr op a b ans = some (v, u)) : u = [] ∧ ∃ x, (binOp op T (.string a) (.string b)).run P w = .ok x w ∧ RV L γ v x := by
  cases op <;> simp only [binStr, ans] at h <;> try (cases h; done)
  case add =>
    split at h
    · rename_i hs
      cases h
      refine ⟨rfl, _, ?_, str_val⟩
      rw [binOp_string_add]
      have : ¬ ((a.size + b.size : Nat) : Int) > IntKind.i64.max := by simp [IntKind.max, IntKind.signed, IntKind.bits]; omega
      simp only [Op.stringOp, if_neg this, Sem.run_pure]
    · cases h
  all_goals
    cases h
    exact ⟨rfl, _, by simp [go_sem], bool_val⟩
end
end Go.Proofs.YtiligfmembmapaaGreatDoor.Abs
/- Fields, paths, places: plain values and their cells. -/
set_option linter.unusedVariables false
set_option linter.unusedSimpArgs false
namespace Go.Proofs.YtiligfmembmapaaGreatDoor.Abs
open Go Go.RowKit

/-- Cells c stand in cs from place o on. -/
def Sits (c cs : List Value) (o : Nat) : Prop := ∀ j u, c[j]? = some u → cs[o + j]? = some u
theorem Sits.refl (c : List Value) : Sits c c 0 := fun j u h => by rwa [Nat.zero_add]
theorem Sits.trans {a b c : List Value} {o o' : Nat} (h : Sits a b o) (k : Sits b c o') : Sits a c (o' + o) := fun j u hj => by
  have := k _ _ (h j u hj)
  rwa [← Nat.add_assoc] at this
theorem Sits.left (c d : List Value) : Sits c (c ++ d) 0 := fun j u h => by
  have : j < c.length := (List.getElem?_eq_some_iff.1 h).1
  rw [Nat.zero_add, List.getElem?_append_left this]
  exact h
theorem Sits.right (c d : List Value) : Sits d (c ++ d) c.length := fun j u h => by
  rw [List.getElem?_append_right (by omega)]
  simpa using h

section
variable {L : Lk} {γ : Nat → Option G}
theorem getF_ok : ∀ {t : Ty} {x : t.den} {f : Nat} {v : SV}, getF t x f = some v → ∃ s y o, v = .val s y ∧ offF t f = some (o, s) ∧ ∀ cs, RK L t x cs → ∃ c, RK L s y c ∧ Sits c cs o
  | .pair a b, x, 0, v, h => by
    cases h
    refine ⟨a, x.1, 0, rfl, rfl, fun cs hr => ?_⟩
    obtain ⟨c, d, rfl, h1, h2⟩ := hr
    exact ⟨c, h1, Sits.left c d⟩
  | .pair a b, x, n + 1, v, h => by
    obtain ⟨s, y, o, hv, ho, hc⟩ := getF_ok (t := b) (x := x.2) (f := n) h
    refine ⟨s, y, a.sz + o, hv, by simp [offF, ho], fun cs hr => ?_⟩
    obtain ⟨c, d, rfl, h1, h2⟩ := hr
    obtain ⟨c', h3, h4⟩ := hc d h2
    refine ⟨c', h3, ?_⟩
    have := h4.trans (Sits.right c d)
    rwa [RK_len h1] at this
  | .int _, _, _, _, h => by simp [getF] at h
  | .bool, _, _, _, h => by simp [getF] at h
  | .err, _, _, _, h => by simp [getF] at h
  | .str, _, _, _, h => by simp [getF] at h
  | .unit, _, _, _, h => by simp [getF] at h
  | .agg _, _, _, _, h => by simp [getF] at h
  | .slice _ _, _, _, _, h => by simp [getF] at h
theorem RTs_get : ∀ {t : Ty} {l : List SV} {cs : List Value}, RTs L γ t l cs → ∀ {f : Nat} {v : SV}, l[f]? = some v → ∃ s o c, offF t f = some (o, s) ∧ RT L γ s v c ∧ Sits c cs o
  | _, _, _, .nil, f, v, h => by simp at h
  | _, _, _, .cons (a := a) (c := c) (d := d) hv k, 0, v, h => by
    simp at h
    subst h
    exact ⟨a, 0, c, rfl, hv, Sits.left c d⟩
  | _, _, _, .cons (a := a) (c := c) (d := d) hv k, f + 1, v, h => by
    obtain ⟨s, o, c', h1, h2, h3⟩ := RTs_get k (f := f) (v := v) (by simpa using h)
    refine ⟨s, a.sz + o, c', by simp [offF, h1], h2, ?_⟩
    have := h3.trans (Sits.right c d)
    rwa [RT_len hv] at this
/-- A record's fields in a row. -/
def Flds : Ty → Prop
  | .pair _ b => Flds b
  | .unit => True
  | _ => False
theorem fieldsOf_ok : ∀ {t : Ty} {x : t.den} {cs : List Value}, RK L t x cs → Flds t → RTs L γ t (fieldsOf t x) cs
  | .pair a b, x, cs, h, hf => by
    obtain ⟨c, d, rfl, h1, h2⟩ := h
    exact .cons (.val h1) (fieldsOf_ok h2 hf)
  | .unit, x, cs, h, _ => by
    rw [show cs = [] from h]
    exact .nil
  | .int _, _, _, _, hf => hf.elim
  | .bool, _, _, _, hf => hf.elim
  | .err, _, _, _, hf => hf.elim
  | .str, _, _, _, hf => hf.elim
  | .agg _, _, _, _, hf => hf.elim
  | .slice _ _, _, _, _, hf => hf.elim
/-- One field of a slot's content. -/
theorem svGet_ok {t : Ty} {v u : SV} {f : Nat} {cs : List Value} (h : RT L γ t v cs) (hg : svGet v f = some u) : ∃ t' s o c, t = .agg t' ∧ offF t' f = some (o, s) ∧ RT L γ s u c ∧ Sits c cs o := by
  cases h with
  | @val t x cs hk =>
    cases t with
    | agg t' =>
      obtain ⟨s, y, o, rfl, ho, hc⟩ := getF_ok (L := L) (show getF t' x f = some u from hg)
      obtain ⟨c, h1, h2⟩ := hc cs hk
      exact ⟨t', s, o, c, rfl, ho, .val h1, h2⟩
    | _ => simp [svGet] at hg
  | @strct t' l cs hk =>
    obtain ⟨s, o, c, h1, h2, h3⟩ := RTs_get hk (show l[f]? = some u from hg)
    exact ⟨t', s, o, c, rfl, h1, h2, h3⟩
  | nilS => simp [svGet] at hg
  | row _ => simp [svGet] at hg
theorem svGetP_ok : ∀ {p : List Nat} {t : Ty} {v u : SV} {cs : List Value}, RT L γ t v cs → svGetP p v = some u → ∃ s o c, offP t p = some (o, s) ∧ RT L γ s u c ∧ Sits c cs o
  | [], t, v, u, cs, h, hg => by
    cases hg
    exact ⟨t, 0, cs, by cases t <;> rfl, h, Sits.refl cs⟩
  | f :: p, t, v, u, cs, h, hg => by
    simp only [svGetP, Option.bind_eq_some_iff] at hg
    obtain ⟨z, hz, hp⟩ := hg
    obtain ⟨t', s, o, c, rfl, h1, h2, h3⟩ := svGet_ok h hz
    obtain ⟨s', o', c', h4, h5, h6⟩ := svGetP_ok h2 hp
    exact ⟨s', o + o', c', by simp [offP, h1, h4], h5, h6.trans h3⟩
theorem getP_ok : ∀ {p : List Nat} {t : Ty} {x : t.den} {u : SV}, getP p t x = some u → ∃ s y o, u = .val s y ∧ offP t p = some (o, s) ∧ ∀ cs, RK L t x cs → ∃ c, RK L s y c ∧ Sits c cs o
  | [], t, x, u, h => by
    cases h
    exact ⟨t, x, 0, rfl, by cases t <;> rfl, fun cs hr => ⟨cs, hr, Sits.refl cs⟩⟩
  | f :: p, .agg t, x, u, h => by
    simp only [getP] at h
    split at h
    · rename_i s y hg
      obtain ⟨s1, y1, o, he, ho, hc⟩ := getF_ok (L := L) hg
      cases he
      obtain ⟨s', y', o', hu, ho', hc'⟩ := getP_ok h
      refine ⟨s', y', o + o', hu, by simp [offP, ho, ho'], fun cs hr => ?_⟩
      obtain ⟨c, h1, h2⟩ := hc cs hr
      obtain ⟨c', h3, h4⟩ := hc' c h1
      exact ⟨c', h3, h4.trans h2⟩
    · cases h
  | f :: p, .int _, _, _, h => by simp [getP] at h
  | f :: p, .bool, _, _, h => by simp [getP] at h
  | f :: p, .err, _, _, h => by simp [getP] at h
  | f :: p, .str, _, _, h => by simp [getP] at h
  | f :: p, .unit, _, _, h => by simp [getP] at h
  | f :: p, .pair _ _, _, _, h => by simp [getP] at h
  | f :: p, .slice _ _, _, _, h => by simp [getP] at h
theorem RT_RV {t : Ty} {v : SV} {cs : List Value} (h : RT L γ t v cs) : RV L γ v (mk t cs) := by
  cases h with
  | val h => exact .val h
  | nilS => exact .nilS
  | row h => exact .row h
  | strct h => exact .strct h
theorem offF_add : ∀ {t : Ty} {f o : Nat} {s : Ty}, offF t f = some (o, s) → o + s.sz ≤ t.sz
  | .pair a b, 0, o, s, h => by
    cases h
    simp [Ty.sz]
  | .pair a b, n + 1, o, s, h => by
    simp only [offF, Option.map_eq_some_iff] at h
    obtain ⟨q, hq, he⟩ := h
    cases he
    have := offF_add hq
    simp only [Ty.sz]
    omega
  | .int _, _, _, _, h => by simp [offF] at h
  | .bool, _, _, _, h => by simp [offF] at h
  | .err, _, _, _, h => by simp [offF] at h
  | .str, _, _, _, h => by simp [offF] at h
  | .unit, _, _, _, h => by simp [offF] at h
  | .agg _, _, _, _, h => by simp [offF] at h
  | .slice _ _, _, _, _, h => by simp [offF] at h
theorem offP_snoc : ∀ {t : Ty} {p : List Nat} {f o o' : Nat} {s s' u : Ty}, offP t p = some (o, s) → s = .agg u → offF u f = some (o', s') → offP t (p ++ [f]) = some (o + o', s')
  | t, [], f, o, o', s, s', u, h, hs, hf => by
    have : (0, t) = (o, s) := by cases t <;> simpa [offP] using h
    cases this
    subst hs
    show (offF u f).bind _ = _
    rw [hf]
    simp [offP]
  | .agg t, g :: p, f, o, o', s, s', u, h, hs, hf => by
    simp only [offP, Option.bind_eq_some_iff, Option.map_eq_some_iff] at h
    obtain ⟨q, hq, q', hq', he⟩ := h
    cases he
    have := offP_snoc hq' hs hf
    simp only [List.cons_append, offP, hq, Option.bind_some, this, Option.map_some]
    simp [Nat.add_assoc]
  | .int _, _ :: _, _, _, _, _, _, _, h, _, _ => by simp [offP] at h
  | .bool, _ :: _, _, _, _, _, _, _, h, _, _ => by simp [offP] at h
  | .err, _ :: _, _, _, _, _, _, _, h, _, _ => by simp [offP] at h
  | .str, _ :: _, _, _, _, _, _, _, h, _, _ => by simp [offP] at h
  | .unit, _ :: _, _, _, _, _, _, _, h, _, _ => by simp [offP] at h
  | .pair _ _, _ :: _, _, _, _, _, _, _, h, _, _ => by simp [offP] at h
  | .slice _ _, _ :: _, _, _, _, _, _, _, h, _, _ => by simp [offP] at h
end

/-! ### The program's fields -/
section
variable {P : Program}
theorem FOk_get : ∀ {fs : List Field} {t : Ty} {o : Nat}, FOk P fs t o → ∀ {f o' : Nat} {s : Ty}, offF t f = some (o', s) → ∃ fl, fs[f]? = some fl ∧ fl.offset = o + o' ∧ 0 < s.sz ∧ InfoOk P fl.type s
  | [], t, o, h, f, o', s, hf => by
    cases t <;> first | exact h.elim | simp [offF] at hf
  | fl :: fs, .pair a b, o, h, 0, o', s, hf => by
    cases hf
    exact ⟨fl, rfl, h.1, h.2.2.1, h.2.2.2.1⟩
  | fl :: fs, .pair a b, o, h, f + 1, o', s, hf => by
    simp only [offF, Option.map_eq_some_iff] at hf
    obtain ⟨q, hq, he⟩ := hf
    cases he
    obtain ⟨g, h1, h2, h3⟩ := FOk_get h.2.2.2.2 hq
    exact ⟨g, by simpa using h1, by omega, h3⟩
  | fl :: fs, .int _, _, h, _, _, _, _ => h.elim
  | fl :: fs, .bool, _, h, _, _, _, _ => h.elim
  | fl :: fs, .err, _, h, _, _, _, _ => h.elim
  | fl :: fs, .str, _, h, _, _, _, _ => h.elim
  | fl :: fs, .unit, _, h, _, _, _, _ => h.elim
  | fl :: fs, .agg _, _, h, _, _, _, _ => h.elim
  | fl :: fs, .slice _ _, _, h, _, _, _, _ => h.elim
theorem InfoOk.isAgg {T : TypeId} {t : Ty} (h : InfoOk P T t) (w : World) : (isAgg T).run P w = .ok (aggB t) w := by
  obtain ⟨d, hd, ha⟩ := h.agg
  rw [← ha]
  cases d <;> simp [Go.isAgg, Go.underlying, hd, aggD]
theorem InfoOk.sizeOf {T : TypeId} {t : Ty} (h : InfoOk P T t) (w : World) : (sizeOf T).run P w = .ok t.sz w := by
  obtain ⟨i, hi, hs, _⟩ := h.info
  simp [Go.sizeOf, typeInfo, hi, hs]
theorem sits_extract {c cs : List Value} {o : Nat} (h : Sits c cs o) : cs.toArray.extract o (o + c.length) = c.toArray := by
  apply Array.toList_inj.1
  rw [Array.toList_extract, List.extract_eq_take_drop]
  simp only [Nat.add_sub_cancel_left]
  apply List.ext_getElem?
  intro j
  rw [List.getElem?_take, List.getElem?_drop]
  by_cases hj : j < c.length
  · rw [if_pos hj]
    have := h j _ (List.getElem?_eq_getElem hj)
    simp [this]
  · rw [if_neg hj]
    simp [List.getElem?_eq_none (show c.length ≤ j by omega)]
theorem part_ok {T : TypeId} {s : Ty} {c cs : List Value} {o : Nat} (h : InfoOk P T s) (hl : c.length = s.sz) (hs : Sits c cs o) (w : World) : (part T cs.toArray o).run P w = .ok (mk s c) w := by
  simp only [part, Sem.run_bind, h.isAgg, Result.andThen_ok]
  rcases h.one with h1 | ⟨u, rfl⟩
  · by_cases ha : aggB s = true
    · obtain ⟨u, rfl⟩ : ∃ u, s = .agg u := by cases s <;> simp_all [aggB]
      simp only [aggB, if_true, Sem.run_bind, h.sizeOf, Result.andThen_ok, Sem.run_pure]
      rw [← hl, sits_extract hs]
      rfl
    · rw [if_neg ha]
      obtain ⟨x, rfl⟩ := List.length_eq_one_iff.1 (hl.trans h1)
      have := hs 0 x rfl
      simp only [Nat.add_zero] at this
      simp only [List.getElem?_toArray, this, Sem.run_pure]
      cases s <;> first | rfl | (simp [aggB] at ha)
  · simp only [aggB, if_true, Sem.run_bind, h.sizeOf, Result.andThen_ok, Sem.run_pure]
    rw [← hl, sits_extract hs]
    rfl
end
end Go.Proofs.YtiligfmembmapaaGreatDoor.Abs
/- What is led to is turned: one variable or row at a time. -/
set_option linter.unusedVariables false
set_option linter.unusedSimpArgs false
namespace Go.Proofs.YtiligfmembmapaaGreatDoor.Abs
open Go Go.RowKit

theorem RK_ty {L : Lk} {t : Ty} {x : t.den} {cs : List Value} (h : RK L t x cs) : ∀ v ∈ cs, v.oneCell' = true := RK_one h
theorem Els_mono {L L' : Lk} (hL : ∀ b o v, L b o v → L' b o v) {t : Ty} {xs : List t.den} {css : List (List Value)} (h : Els L t xs css) : Els L' t xs css :=
  ⟨h.1, fun i hi hi' => RK_mono hL (h.2 i hi hi')⟩
theorem blk_ext {γ γ' : Nat → Option G} {r : Nat} {x : Res} (h : γ' r = γ r) : blk γ' r x = blk γ r x := by
  cases x <;> simp only [blk, h]
theorem ResOk.lt {L : Lk} {Pr : Nat → Nat → Prop} {γ : Nat → Option G} {w : World} {r : Nat} {x : Res} (h : ResOk L Pr γ w r x) {b : Nat} (hb : blk γ r x = some b) : b < w.heap.size := by
  cases x with
  | box t c =>
    obtain ⟨b', arr, T, hg, hh, _⟩ := h
    simp only [blk, hg, Option.some.injEq] at hb
    subst hb
    exact (Array.getElem?_eq_some_iff.1 hh).1
  | row e t xs fr =>
    obtain ⟨v, css, hg, _, ho, _⟩ := h
    simp only [blk, hg] at hb
    exact (ho.lt b hb).2
  | old e t xs => cases hb
theorem ResOk.γsome {L : Lk} {Pr : Nat → Nat → Prop} {γ : Nat → Option G} {w : World} {r : Nat} {x : Res} (h : ResOk L Pr γ w r x) : ∃ g, γ r = some g := by
  cases x with
  | box t c => obtain ⟨b', arr, T, hg, _⟩ := h; exact ⟨_, hg⟩
  | row e t xs fr => obtain ⟨v, css, hg, _⟩ := h; exact ⟨_, hg⟩
  | old e t xs => obtain ⟨v, hg, _⟩ := h; exact ⟨_, hg⟩
theorem ResOk.kept {L L' : Lk} {Pr Pr' : Nat → Nat → Prop} {γ γ' : Nat → Option G} {w w' : World} {row : Option Nat} {r : Nat} {x : Res} (h : ResOk L Pr γ w r x) (hL : ∀ b o v, L b o v → L' b o v)
    (hP : ∀ b o, Pr b o → Pr' b o) (hγ : ∀ r g, γ r = some g → γ' r = some g) (hg : w.grownBy w' row) (hne : ∀ b, row = some b → blk γ r x ≠ some b) : ResOk L' Pr' γ' w' r x := by
  cases x with
  | box t c =>
    obtain ⟨b, arr, T, hk, hh, hc⟩ := h
    refine ⟨b, arr, T, hγ _ _ hk, ?_, RT_mono hL hγ hc⟩
    rw [hg.block b (Array.getElem?_eq_some_iff.1 hh).1 (fun e => hne b e.symm (by simp [blk, hk]))]
    exact hh
  | row e t xs fr =>
    obtain ⟨v, css, hk, he, ho, hf⟩ := h
    refine ⟨v, css, hγ _ _ hk, Els_mono hL he, ho.kept hg ?_, fun h b hb o hoo => hP _ _ (hf h b hb o hoo)⟩
    cases hb : v.ownBlock with
    | none => exact .inl rfl
    | some b => exact .inr fun e => hne b e.symm (by simp [blk, hk, hb])
  | old e t xs =>
    obtain ⟨v, hk, hr⟩ := h
    exact ⟨v, hγ _ _ hk, RK_mono hL hr⟩
section
variable {w0 : World} {X : Nat → Prop} {Pr0 : Nat → Nat → Prop} {sl : List SV} {get : Nat → Option Res} {γ γ' : Nat → Option G} {Pr Pr' : Nat → Nat → Prop} {a : Act} {w w' : World}
theorem Ln_turn (hin : ∀ b o, Pr b o → b < w.heap.size) {row : Option Nat} (hg : w.grownBy w' row) (hP : ∀ b o, Pr b o → Pr' b o)
    (hcell : ∀ b o v, row = some b → Pr b o → w.cell? ⟨b, o, none⟩ = some v → w'.cell? ⟨b, o, none⟩ = some v) : ∀ b o v, Ln Pr w b o v → Ln Pr' w' b o v := by
  intro b o v ⟨h1, h2⟩
  refine ⟨hP _ _ h1, ?_⟩
  by_cases hr : row = some b
  · exact hcell b o v hr h1 h2
  · rw [World.cell?_of_block (hg.block b (hin _ _ h1) (fun e => hr e.symm))]
    exact h2
/-- One of what slots lead to is turned (or gone, or new). -/
theorem Inv.turn (hI : Inv w0 X Pr0 sl get γ Pr a w) (k : Nat) (x' : Option Res) (row : Option Nat) (hg : w.grownBy w' row) (hγ : ∀ r g, γ r = some g → γ' r = some g) (hγk : ∀ r, r ≠ k → γ' r = γ r)
    (hgs : ∀ e t v, γ' k = some (.row e t v) → ∃ A n c, v = .slice A n c) (hwf : ∀ b t, γ' k = some (.box b t) → WfB false t = true)
    (hrow : ∀ b, row = some b → (X b ∨ w0.heap.size ≤ b) ∧ ∀ r x, r ≠ k → get r = some x → blk γ r x ≠ some b)
    (hP : ∀ b o, Pr b o → Pr' b o) (hP' : ∀ b o, Pr' b o → Pr b o ∨ ∃ x, x' = some x ∧ blk γ' k x = some b ∧ mayLean x o)
    (hcell : ∀ b o v, row = some b → Pr b o → w.cell? ⟨b, o, none⟩ = some v → w'.cell? ⟨b, o, none⟩ = some v)
    (hres : ∀ x, x' = some x → ResOk (Ln Pr' w') Pr' γ' w' k x)
    (hblk : ∀ x b, x' = some x → blk γ' k x = some b → (X b ∨ w0.heap.size ≤ b) ∧ (∀ r y, r ≠ k → get r = some y → blk γ r y ≠ some b) ∧ ∀ o, Pr b o → mayLean x o) :
    Inv w0 X Pr0 sl (fun s => if s = k then x' else get s) γ' Pr' a w' := by
  have hL := Ln_turn hI.prIn hg hP hcell
  constructor
  case slots => exact RVs_mono hL hγ hI.slots
  case defers => exact hI.defers
  case gs =>
    intro r e t v h
    by_cases hr : r = k
    · subst hr
      exact hgs e t v h
    · rw [hγk r hr] at h
      exact hI.gs r e t v h
  case wfs =>
    intro r b t h
    by_cases hr : r = k
    · subst hr
      exact hwf b t h
    · rw [hγk r hr] at h
      exact hI.wfs r b t h
  case res =>
    intro r x h
    by_cases hk : r = k
    · subst hk
      rw [if_pos rfl] at h
      exact hres x h
    · rw [if_neg hk] at h
      exact (hI.res r x h).kept hL hP hγ hg fun b hb => (hrow b hb).2 r x hk h
  case apart =>
    intro r r' x y b h h' hne hb
    by_cases hk : r = k
    · subst hk
      rw [if_pos rfl] at h
      rw [if_neg (fun e => hne e.symm)] at h'
      rw [blk_ext (hγk r' (fun e => hne e.symm))]
      exact (hblk x b h hb).2.1 r' y (fun e => hne e.symm) h'
    · rw [if_neg hk] at h
      rw [blk_ext (hγk r hk)] at hb
      by_cases hk' : r' = k
      · subst hk'
        rw [if_pos rfl] at h'
        exact fun hb' => (hblk y b h' hb').2.1 r x hk h hb
      · rw [if_neg hk'] at h'
        rw [blk_ext (hγk r' hk')]
        exact hI.apart r r' x y b h h' hne hb
  case loose =>
    intro r x b h hb o ho
    by_cases hk : r = k
    · subst hk
      rw [if_pos rfl] at h
      rcases hP' b o ho with ho | ⟨x1, h1, h2, h3⟩
      · exact (hblk x b h hb).2.2 o ho
      · rw [h] at h1
        cases h1
        exact h3
    · rw [if_neg hk] at h
      rw [blk_ext (hγk r hk)] at hb
      rcases hP' b o ho with ho | ⟨x1, h1, h2, h3⟩
      · exact hI.loose r x b h hb o ho
      · exact absurd hb ((hblk x1 b h1 h2).2.1 r x hk h)
  case where_ =>
    intro r x b h hb
    by_cases hk : r = k
    · subst hk
      rw [if_pos rfl] at h
      exact (hblk x b h hb).1
    · rw [if_neg hk] at h
      rw [blk_ext (hγk r hk)] at hb
      exact hI.where_ r x b h hb
  case frame =>
    intro i hi hx
    rw [hg.block i (by have := hI.size; omega) (fun e => by
      rcases (hrow i e.symm).1 with h | h
      · exact hx h
      · omega)]
    exact hI.frame i hi hx
  case size => exact Nat.le_trans hI.size hg.size
  case os => exact hg.os.trans hI.os
  case tape => exact hg.tape.trans hI.tape
  case output => exact hg.output.trans hI.output
  case prIn =>
    intro b o ho
    rcases hP' b o ho with ho | ⟨x1, h1, h2, h3⟩
    · exact Nat.lt_of_lt_of_le (hI.prIn b o ho) hg.size
    · exact (hres x1 h1).lt h2
  case prOld =>
    intro b hb hx o ho
    rcases hP' b o ho with ho | ⟨x1, h1, h2, h3⟩
    · exact hI.prOld b hb hx o ho
    · rcases (hblk x1 b h1 h2).1 with h | h
      · exact absurd h hx
      · omega
  case pr0 => exact fun b o v h => hL _ _ _ (hI.pr0 b o v h)

/-! ### Rows are shared -/
theorem Inv.freeze1 (hI : Inv w0 X Pr0 sl get γ Pr a w) {r : Nat} {e : TypeId} {t : Ty} {xs : List t.den} {fr : Bool} (h : get r = some (.row e t xs fr)) :
    ∃ Pr', Inv w0 X Pr0 sl (fun s => if s = r then some (.row e t xs true) else get s) γ Pr' a w ∧ ∀ b o, Pr b o → Pr' b o := by
  obtain ⟨v, css, hk, he, ho, hf⟩ := hI.res r _ h
  have hb : ∀ x fr', x = Res.row e t xs fr' → blk γ r x = v.ownBlock := fun x fr' hx => by subst hx; simp [blk, hk]
  refine ⟨fun b o => Pr b o ∨ (v.ownBlock = some b ∧ o < xs.length * t.sz), ?_, fun b o h => .inl h⟩
  refine hI.turn r _ none ⟨rfl, rfl, rfl, Nat.le_refl _, fun _ _ _ => rfl⟩ (fun _ _ h => h) (fun _ _ => rfl) (fun e t v h => hI.gs r e t v h) (fun b t h => hI.wfs r b t h) (fun b hb => by cases hb) (fun b o h => .inl h) ?_ (fun b o v hb => by cases hb) ?_ ?_
  · intro b o ho
    rcases ho with ho | ⟨h1, h2⟩
    · exact .inl ho
    · exact .inr ⟨_, rfl, (hb _ true rfl).trans h1, h2⟩
  · intro x hx
    cases hx
    exact ⟨v, css, hk, Els_mono (fun b o v h => ⟨.inl h.1, h.2⟩) he, ho, fun _ b hb o ho => .inr ⟨hb, ho⟩⟩
  · intro x b hx hbb
    cases hx
    have hb' : blk γ r (.row e t xs fr) = some b := by rw [hb _ fr rfl, ← hb _ true rfl]; exact hbb
    refine ⟨hI.where_ r _ b h hb', fun r' y hne hy hyb => hI.apart r r' _ y b h hy (fun e => hne e.symm) hb' hyb, fun o hoo => ?_⟩
    have := hI.loose r _ b h hb' o hoo
    cases fr with
    | true => exact this
    | false => exact this.elim
theorem updG_append {get : Nat → Option Res} : ∀ {u u' : Up}, updG get (u ++ u') = updG (updG get u) u'
  | [], u' => rfl
  | (r, x) :: u, u' => updG_append (u := u)
/-- Rows of a table, known but for whether they are shared. -/
def Knows (res : Tab) (get : Nat → Option Res) : Prop := ∀ r x, getR res r = some x → ∃ y, get r = some y ∧ (y = x ∨ ∃ e t xs fr, x = .row e t xs fr ∧ y = .row e t xs true)
theorem Knows.row {res : Tab} (h : Knows res get) {r : Nat} {e : TypeId} {t : Ty} {xs : List t.den} {fr : Bool} (hr : getR res r = some (.row e t xs fr)) : ∃ fr', get r = some (.row e t xs fr') ∧ (fr = true → fr' = true) := by
  obtain ⟨y, hy, h | ⟨e', t', xs', fr', h1, h2⟩⟩ := h r _ hr
  · subst h
    exact ⟨fr, hy, id⟩
  · cases h1
    subst h2
    exact ⟨true, hy, fun _ => rfl⟩
theorem Inv.freeze_ok (res : Tab) : ∀ (l : List Nat) {get : Nat → Option Res} {Pr : Nat → Nat → Prop}, Knows res get → Inv w0 X Pr0 sl get γ Pr a w →
    ∃ Pr', Inv w0 X Pr0 sl (updG get (freeze res l)) γ Pr' a w ∧ (∀ b o, Pr b o → Pr' b o) ∧ Knows res (updG get (freeze res l)) ∧
      (∀ r, (∀ e t xs fr, get r ≠ some (.row e t xs fr)) → updG get (freeze res l) r = get r) ∧
      (∀ r e t xs fr, r ∈ l → getR res r = some (.row e t xs fr) → updG get (freeze res l) r = some (.row e t xs true)) ∧
      (∀ r e t xs fr, get r = some (.row e t xs fr) → ∃ fr', updG get (freeze res l) r = some (.row e t xs fr') ∧ (fr = true → fr' = true)) ∧
      (∀ r, r ∉ l → updG get (freeze res l) r = get r)
  | [], get, Pr, hk, hI => ⟨Pr, hI, fun _ _ h => h, hk, fun _ _ => rfl, fun _ _ _ _ _ h => by simp at h, fun r e t xs fr h => ⟨fr, h, id⟩, fun _ _ => rfl⟩
  | r :: l, get, Pr, hk, hI => by
    by_cases h : ∃ e t xs, getR res r = some (.row e t xs false)
    · obtain ⟨e, t, xs, h⟩ := h
      obtain ⟨fr', hr, _⟩ := hk.row h
      obtain ⟨Pr1, hI1, hP1⟩ := hI.freeze1 hr
      have hk1 : Knows res (fun s => if s = r then some (.row e t xs true) else get s) := by
        intro s x hx
        by_cases hs : s = r
        · subst hs
          rw [h] at hx
          cases hx
          exact ⟨_, if_pos rfl, .inr ⟨e, t, xs, false, rfl, rfl⟩⟩
        · obtain ⟨y, hy, hh⟩ := hk s x hx
          exact ⟨y, by simp only [if_neg hs]; exact hy, hh⟩
      obtain ⟨Pr2, hI2, hP2, hk2, h21, h22, h23, h24⟩ := Inv.freeze_ok res l hk1 hI1
      have he : freeze res (r :: l) = (r, some (.row e t xs true)) :: freeze res l := by simp [freeze, h]
      rw [he]
      refine ⟨Pr2, hI2, fun b o hh => hP2 b o (hP1 b o hh), hk2, ?_, ?_, ?_, ?_⟩
      · intro s hn
        have hs : s ≠ r := fun hh => hn e t xs fr' (hh ▸ hr)
        rw [show updG get ((r, some (.row e t xs true)) :: freeze res l) = updG (fun s => if s = r then some (.row e t xs true) else get s) (freeze res l) from rfl, h21 s (fun e' t' xs' fr2 => by simp only [if_neg hs]; exact hn e' t' xs' fr2)]
        simp only [if_neg hs]
      · intro s e' t' xs' fr hs hx
        rcases List.mem_cons.1 hs with rfl | hs
        · rw [h] at hx
          cases hx
          obtain ⟨fr2, h4, h5⟩ := h23 s e t xs true (if_pos rfl)
          rw [h5 rfl] at h4
          exact h4
        · exact h22 s e' t' xs' fr hs hx
      · intro s e' t' xs' fr hx
        by_cases hs : s = r
        · subst hs
          rw [hr] at hx
          cases hx
          obtain ⟨fr2, h4, h5⟩ := h23 s e t xs true (if_pos rfl)
          exact ⟨fr2, h4, fun _ => h5 rfl⟩
        · exact h23 s e' t' xs' fr (by simp only [if_neg hs]; exact hx)
      · intro s hs
        rw [show updG get ((r, some (.row e t xs true)) :: freeze res l) = updG (fun s => if s = r then some (.row e t xs true) else get s) (freeze res l) from rfl, h24 s (fun hh => hs (List.mem_cons_of_mem _ hh))]
        simp only [if_neg (fun e => hs (by simp [e]) : ¬ s = r)]
    · have he : freeze res (r :: l) = freeze res l := by
        simp only [freeze, List.filterMap_cons]
        split
        · rfl
        · rename_i hh
          split at hh
          · rename_i e t xs hx
            exact absurd ⟨e, t, xs, hx⟩ h
          · cases hh
      obtain ⟨Pr2, hI2, hP2, hk2, h21, h22, h23, h24⟩ := Inv.freeze_ok res l hk hI
      rw [he]
      refine ⟨Pr2, hI2, hP2, hk2, h21, ?_, h23, fun s hs => h24 s (fun hh => hs (List.mem_cons_of_mem _ hh))⟩
      intro s e' t' xs' fr hs hx
      rcases List.mem_cons.1 hs with rfl | hs
      · cases fr with
        | false => exact absurd ⟨e', t', xs', hx⟩ h
        | true =>
          obtain ⟨fr', h5, h6⟩ := hk.row hx
          obtain ⟨fr2, h7, h8⟩ := h23 s e' t' xs' fr' h5
          rw [h8 (h6 rfl)] at h7
          exact h7
      · exact h22 s e' t' xs' fr hs hx
end
end Go.Proofs.YtiligfmembmapaaGreatDoor.Abs
/- What a slot leads to, read as a plain value. -/
set_option linter.unusedVariables false
set_option linter.unusedSimpArgs false
namespace Go.Proofs.YtiligfmembmapaaGreatDoor.Abs
open Go Go.RowKit

theorem flatten_get {α : Type} : ∀ {css : List (List α)} {n : Nat}, (∀ c ∈ css, c.length = n) → ∀ {i j : Nat} {c : List α}, css[i]? = some c → j < n → css.flatten[i * n + j]? = c[j]?
  | [], n, _, i, j, c, h, _ => by simp at h
  | c0 :: css, n, hl, 0, j, c, h, hj => by
    simp at h
    subst h
    rw [List.flatten_cons, Nat.zero_mul, Nat.zero_add, List.getElem?_append_left (by rw [hl _ (by simp)]; exact hj)]
  | c0 :: css, n, hl, i + 1, j, c, h, hj => by
    have h0 : c0.length = n := hl _ (by simp)
    rw [List.flatten_cons, List.getElem?_append_right (by rw [h0, Nat.succ_mul]; omega), h0]
    rw [show (i + 1) * n + j - n = i * n + j by rw [Nat.succ_mul]; omega]
    exact flatten_get (fun c hc => hl c (List.mem_cons_of_mem _ hc)) (by simpa using h) hj
theorem Els.lens {L : Lk} {t : Ty} {xs : List t.den} {css : List (List Value)} (h : Els L t xs css) : ∀ c ∈ css, c.length = t.sz := by
  intro c hc
  obtain ⟨i, hi, rfl⟩ := List.getElem_of_mem hc
  exact RK_len (h.2 i (by rw [← h.1]; exact hi) hi)
theorem Els.ones {L : Lk} {t : Ty} {xs : List t.den} {css : List (List Value)} (h : Els L t xs css) : ∀ v ∈ css.flatten, v.oneCell' = true := by
  intro v hv
  obtain ⟨c, hc, hv⟩ := List.mem_flatten.1 hv
  obtain ⟨i, hi, rfl⟩ := List.getElem_of_mem hc
  exact RK_one (h.2 i (by rw [← h.1]; exact hi) hi) v hv
theorem add_lit (b o j : Nat) : (⟨b, o, none⟩ : Addr).add j = ⟨b, o + j, none⟩ := by unfold Addr.add; split <;> simp_all
/-- A row of the call's own as a plain row. -/
theorem row_RK {Pr Pr' : Nat → Nat → Prop} {γ : Nat → Option G} {w : World} {r : Nat} {e : TypeId} {t : Ty} {xs : List t.den} {fr : Bool} (h : ResOk (Ln Pr w) Pr γ w r (.row e t xs fr))
    (hP : ∀ b o, Pr b o → Pr' b o) (hP' : ∀ b, blk γ r (.row e t xs fr) = some b → ∀ o, o < xs.length * t.sz → Pr' b o) : ∃ v, γ r = some (.row e t v) ∧ RK (Ln Pr' w) (.slice e t) xs [v] := by
  obtain ⟨v, css, hk, he, ho, _⟩ := h
  refine ⟨v, hk, ?_⟩
  rcases ho.2 with ⟨rfl, hn⟩ | ⟨g, cap, cur, rfl, _, hg, hnc, _⟩
  · have hx : xs = [] := List.eq_nil_of_length_eq_zero hn
    subst hx
    exact ⟨none, 0, rfl, Nat.le_refl _, fun h => absurd rfl h⟩
  · refine ⟨some ⟨g, 0, none⟩, cap, rfl, hnc, fun _ => ⟨g, 0, rfl, fun i hi => ?_⟩⟩
    have hi' : i < css.length := by rw [he.1]; exact hi
    refine ⟨css[i], RK_mono (fun b o v h => ⟨hP _ _ h.1, h.2⟩) (he.2 i hi hi'), fun j u hj => ?_⟩
    have hjs : j < t.sz := by
      have := he.lens _ (List.getElem_mem hi')
      rw [← this]
      exact (List.getElem?_eq_some_iff.1 hj).1
    have hfl : css.flatten[i * t.sz + j]? = some u := (flatten_get he.lens (List.getElem?_eq_getElem hi') hjs).trans hj
    have hlt : i * t.sz + j < xs.length * t.sz := by
      have h1 : (i + 1) * t.sz ≤ xs.length * t.sz := Nat.mul_le_mul_right _ hi
      rw [Nat.succ_mul] at h1
      omega
    refine ⟨hP' g (by simp [blk, hk, Value.ownBlock]) _ (by omega), ?_⟩
    have := ho.cells (g := g) rfl _ _ hfl
    rwa [add_lit, ← Nat.add_assoc] at this
/-- Rows that are known by their numbers. -/
def RowsOk (L : Lk) (γ : Nat → Option G) (res : Tab) (P : Nat → Prop) : Prop := ∀ r e t xs, P r → ((∃ fr, getR res r = some (.row e t xs fr)) ∨ getR res r = some (.old e t xs)) → ∃ v, γ r = some (.row e t v) ∧ RK L (.slice e t) xs [v]
theorem cast_eq {t s : Ty} {x : t.den} {y : s.den} (h : cast? s x = some y) : ∃ h : t = s, h ▸ x = y := by
  unfold cast? at h
  split at h
  · exact ⟨by assumption, by simpa using h⟩
  · cases h
section
variable {L : Lk} {γ : Nat → Option G} {res : Tab} {P : Nat → Prop}
theorem toPairs_ok {g : (t : Ty) → SV → Option t.den} (Q : SV → Prop) (hg : ∀ {a t : Ty} {v : SV} {x : a.den} {c : List Value}, Q v → RT L γ t v c → g a v = some x → RK L a x c) :
    ∀ {t s : Ty} {l : List SV} {cs : List Value} {x : t.den}, (∀ v ∈ l, Q v) → RTs L γ s l cs → toPairs g t l = some x → RK L t x cs
  | t, _, _, _, x, hq, .nil, h => by
    cases t <;> simp only [toPairs] at h <;> first | (cases h; done) | exact rfl
  | t, _, _, _, x, hq, .cons hv k, h => by
    cases t <;> simp only [toPairs] at h <;> try (cases h; done)
    simp only [Option.bind_eq_some_iff] at h
    obtain ⟨u, hu, w, hw, he⟩ := h
    cases he
    exact ⟨_, _, rfl, hg (hq _ (by simp)) hv hu, toPairs_ok Q hg (fun v hv => hq v (List.mem_cons_of_mem _ hv)) k hw⟩
theorem toVal_row {d : Nat} {t : Ty} {r : Nat} {x : t.den} (h : toVal res (d + 1) t (.row r) = some x) : ∃ e s xs, ((∃ fr, getR res r = some (.row e s xs fr)) ∨ getR res r = some (.old e s xs)) ∧ cast? (t := .slice e s) t xs = some x := by
  have h' : (match getR res r with
    | some (.row e s xs _) => cast? (t := .slice e s) t xs
    | some (.old e s xs) => cast? (t := .slice e s) t xs
    | _ => none) = some x := by
    cases t <;> exact h
  split at h'
  · exact ⟨_, _, _, .inl ⟨_, by assumption⟩, h'⟩
  · exact ⟨_, _, _, .inr (by assumption), h'⟩
  · cases h'
theorem toVal_RT (hr : RowsOk L γ res P) : ∀ (d d' : Nat) {t s : Ty} {v : SV} {x : t.den} {cs : List Value}, d ≤ d' → (∀ r ∈ rowsIn d' v, P r) → RT L γ s v cs → toVal res d t v = some x → RK L t x cs := by
  intro d
  induction d with
  | zero => intro d' t s v x cs _ _ _ h; simp [toVal] at h
  | succ d ih =>
    intro d' t s v x cs hd hP hv h
    cases d' with
    | zero => omega
    | succ d' =>
      cases hv with
      | val hk =>
        simp only [toVal] at h
        obtain ⟨rfl, rfl⟩ := cast_eq h
        exact hk
      | nilS =>
        cases t <;> simp only [toVal] at h <;> try (cases h; done)
        cases h
        exact ⟨none, 0, rfl, Nat.le_refl _, fun h => absurd rfl h⟩
      | row hk =>
        rename_i r _
        obtain ⟨e, s, xs, hres, hc⟩ := toVal_row h
        obtain ⟨v, hv, hrk⟩ := hr r e s xs (hP r (by simp [rowsIn])) hres
        rw [hk] at hv
        cases hv
        obtain ⟨rfl, rfl⟩ := cast_eq hc
        exact hrk
      | strct hk =>
        rename_i l
        cases t <;> simp only [toVal] at h <;> try (cases h; done)
        rename_i t'
        show RK L t' x cs
        refine toPairs_ok (t := t') (x := x) (fun v => ∀ r ∈ rowsIn d' v, P r) (fun hq ht hx => ih d' (Nat.le_of_succ_le_succ hd) hq ht hx) (fun v hv r hrr => hP r ?_) hk h
        simp only [rowsIn, List.mem_flatMap]
        exact ⟨v, hv, hrr⟩
theorem toVal_RV (hr : RowsOk L γ res P) {d d' : Nat} {t : Ty} {v : SV} {x : t.den} {u : Value} (hd : d ≤ d') (hP : ∀ r ∈ rowsIn d' v, P r) (hv : RV L γ v u) (h : toVal res d t v = some x) : ∃ cs, u = mk t cs ∧ RK L t x cs := by
  match d, d', hd with
  | 0, _, _ => simp [toVal] at h
  | d + 1, d' + 1, hd =>
    cases hv with
    | undef => simp [toVal] at h
    | nilS =>
      cases t <;> simp only [toVal] at h <;> try (cases h; done)
      cases h
      exact ⟨[.slice none 0 0], rfl, none, 0, rfl, Nat.le_refl _, fun h => absurd rfl h⟩
    | val hk =>
      simp only [toVal] at h
      obtain ⟨rfl, rfl⟩ := cast_eq h
      exact ⟨_, rfl, hk⟩
    | row hk =>
      rename_i e s r
      have hrk := toVal_RT hr (d + 1) (d' + 1) hd hP (.row hk) h
      refine ⟨_, ?_, hrk⟩
      obtain ⟨e', s', xs, _, hc⟩ := toVal_row h
      obtain ⟨rfl, _⟩ := cast_eq hc
      rfl
    | strct hk =>
      have hrk := toVal_RT hr (d + 1) (d' + 1) hd hP (.strct hk) h
      cases t <;> simp only [toVal] at h <;> try (cases h; done)
      exact ⟨_, rfl, hrk⟩
    | ptr => simp [toVal] at h
    | eptr => simp [toVal] at h
    | rptr => simp [toVal] at h
    | tail => simp [toVal] at h
    | fn => simp [toVal] at h
    | tup => simp [toVal] at h
end
/-- Everything may be looked at. -/
abbrev LnT (w : World) : Lk := Ln (fun _ _ => True) w
section
variable {w0 : World} {X : Nat → Prop} {Pr0 : Nat → Nat → Prop} {sl : List SV} {get : Nat → Option Res} {γ : Nat → Option G} {Pr : Nat → Nat → Prop} {a : Act} {w : World} {res : Tab}
theorem Ln_T : ∀ b o v, Ln Pr w b o v → LnT w b o v := fun b o v h => ⟨trivial, h.2⟩
theorem rowsT (hI : Inv w0 X Pr0 sl get γ Pr a w) (hk : ∀ r x, getR res r = some x → get r = some x) : RowsOk (LnT w) γ res (fun _ => True) := by
  intro r e t xs _ h
  rcases h with ⟨fr, h⟩ | h
  · exact row_RK (hI.res r _ (hk r _ h)) (fun _ _ _ => trivial) (fun _ _ _ _ => trivial)
  · obtain ⟨v, hv, hr⟩ := hI.res r _ (hk r _ h)
    exact ⟨v, hv, RK_mono Ln_T hr⟩
theorem readT (hI : Inv w0 X Pr0 sl get γ Pr a w) (hk : ∀ r x, getR res r = some x → get r = some x) {d : Nat} {t : Ty} {v : SV} {x : t.den} {u : Value} (hv : RV (Ln Pr w) γ v u) (h : toVal res d t v = some x) :
    ∃ cs, u = mk t cs ∧ RK (LnT w) t x cs := toVal_RV (rowsT hI hk) (Nat.le_refl d) (fun _ _ => trivial) (RV_mono Ln_T (fun _ _ h => h) hv) h
/-- Behind a freeze: what the rows hold may be leaned on. -/
theorem rowsF (hI : Inv w0 X Pr0 sl get γ Pr a w) {l : List Nat} (hk : ∀ r e t xs fr, r ∈ l → getR res r = some (.row e t xs fr) → get r = some (.row e t xs true))
    (ho : ∀ r e t xs, getR res r = some (.old e t xs) → get r = some (.old e t xs)) : RowsOk (Ln Pr w) γ res (fun r => r ∈ l) := by
  intro r e t xs hr h
  rcases h with ⟨fr, h⟩ | h
  · have h1 := hI.res r _ (hk r e t xs fr hr h)
    obtain ⟨v, css, h2, h3, h4, h5⟩ := h1
    refine row_RK (hI.res r _ (hk r e t xs fr hr h)) (fun _ _ h => h) (fun b hb o hoo => h5 rfl b ?_ o hoo)
    simpa [blk, h2] using hb
  · obtain ⟨v, hv, hr⟩ := hI.res r _ (ho r e t xs h)
    exact ⟨v, hv, hr⟩
end
end Go.Proofs.YtiligfmembmapaaGreatDoor.Abs
/- Does a slot's content fit a variable? Records are laid out and closed up; fields are put. -/
set_option linter.unusedVariables false
set_option linter.unusedSimpArgs false
namespace Go.Proofs.YtiligfmembmapaaGreatDoor.Abs
open Go Go.RowKit

/-- The table's rows have the types that stand in it. -/
def RowTy (γ : Nat → Option G) (res : Tab) : Prop := ∀ r e t xs, ((∃ fr, getR res r = some (.row e t xs fr)) ∨ getR res r = some (.old e t xs)) → ∃ v, γ r = some (.row e t v)
section
variable {L : Lk} {γ : Nat → Option G} {res : Tab}
theorem fits_row {d : Nat} {t : Ty} {r : Nat} (h : fits res (d + 1) t (.row r) = true) : ∃ e s, ((∃ xs fr, getR res r = some (.row e s xs fr)) ∨ ∃ xs, getR res r = some (.old e s xs)) ∧ Ty.slice e s = t := by
  have h' : (match getR res r with
    | some (.row e s _ _) => decide (Ty.slice e s = t)
    | some (.old e s _) => decide (Ty.slice e s = t)
    | _ => false) = true := by
    cases t <;> exact h
  split at h'
  · exact ⟨_, _, .inl ⟨_, _, by assumption⟩, of_decide_eq_true h'⟩
  · exact ⟨_, _, .inr ⟨_, by assumption⟩, of_decide_eq_true h'⟩
  · cases h'
theorem fits_go {g : Ty → SV → Bool} (hg : ∀ {a s : Ty} {v : SV} {c : List Value}, RT L γ s v c → g a v = true → RT L γ a v c) : ∀ {t s : Ty} {l : List SV} {cs : List Value}, RTs L γ s l cs → fits.go g t l = true → RTs L γ t l cs
  | t, _, _, _, .nil, h => by
    cases t <;> simp only [fits.go] at h <;> first | (cases h; done) | exact .nil
  | t, _, _, _, .cons hv k, h => by
    cases t <;> simp only [fits.go, Bool.and_eq_true] at h <;> try (cases h; done)
    exact .cons (hg hv h.1) (fits_go hg k h.2)
theorem fits_RT (hr : RowTy γ res) : ∀ (d : Nat) {t s : Ty} {v : SV} {cs : List Value}, RT L γ s v cs → fits res d t v = true → RT L γ t v cs := by
  intro d
  induction d with
  | zero => intro t s v cs _ h; simp [fits] at h
  | succ d ih =>
    intro t s v cs hv h
    cases hv with
    | val hk =>
      simp only [fits, decide_eq_true_eq] at h
      subst h
      exact .val hk
    | nilS =>
      cases t <;> simp only [fits] at h <;> try (cases h; done)
      exact .nilS
    | row hk =>
      rename_i e s' r v'
      obtain ⟨e', s2, hh, rfl⟩ := fits_row h
      have : ∃ v, γ r = some (.row e' s2 v) := by
        rcases hh with ⟨xs, fr, hh⟩ | ⟨xs, hh⟩
        · exact hr r e' s2 xs (.inl ⟨fr, hh⟩)
        · exact hr r e' s2 xs (.inr hh)
      obtain ⟨v2, hv2⟩ := this
      rw [hk] at hv2
      cases hv2
      exact .row hk
    | strct hk =>
      cases t <;> simp only [fits] at h <;> try (cases h; done)
      exact .strct (fits_go (fun hv hh => ih hv hh) hk h)
theorem fits_RV (hr : RowTy γ res) {d : Nat} {t : Ty} {v : SV} {u : Value} (hv : RV L γ v u) (h : fits res d t v = true) : ∃ cs, u = mk t cs ∧ RT L γ t v cs := by
  cases d with
  | zero => simp [fits] at h
  | succ d =>
    cases hv with
    | undef => simp [fits] at h
    | ptr => simp [fits] at h
    | eptr => simp [fits] at h
    | rptr => simp [fits] at h
    | tail => simp [fits] at h
    | fn => simp [fits] at h
    | tup => simp [fits] at h
    | nilS =>
      cases t <;> simp only [fits] at h <;> try (cases h; done)
      exact ⟨_, rfl, .nilS⟩
    | val hk =>
      simp only [fits, decide_eq_true_eq] at h
      subst h
      exact ⟨_, rfl, .val hk⟩
    | row hk =>
      have := fits_RT hr (d + 1) (RT.row (L := L) hk) h
      obtain ⟨e', s2, hh, rfl⟩ := fits_row h
      exact ⟨_, rfl, this⟩
    | strct hk =>
      have := fits_RT hr (d + 1) (RT.strct hk) h
      cases t <;> simp only [fits] at h <;> try (cases h; done)
      exact ⟨_, rfl, this⟩
theorem spread_ok {t : Ty} {v : SV} {cs : List Value} (h : RT L γ t v cs) (hf : ∀ u, t = .agg u → Flds u) : RT L γ t (spread v) cs := by
  cases h with
  | @val t x cs hk =>
    cases t <;> simp only [spread] <;> first | exact .val hk | exact .strct (fieldsOf_ok hk (hf _ rfl))
  | nilS => exact .nilS
  | row h => exact .row h
  | strct h => exact .strct h
theorem closeUp_ok {t s : Ty} {l : List SV} {cs : List Value} {v : SV} (h : RTs L γ s l cs) (hc : closeUp t l = some v) : RV L γ v (.agg cs.toArray) ∧ ((∃ x, v = .val (.agg t) x ∧ RK L t x cs) ∨ v = .strct l) := by
  unfold closeUp at hc
  split at hc
  · simp only [Option.bind_eq_some_iff] at hc
    obtain ⟨x, hx, he⟩ := hc
    cases he
    have hr : RowsOk L γ [] (fun _ => True) := by
      intro r e t xs _ h
      rcases h with ⟨fr, h⟩ | h <;> simp [getR] at h
    have hk : RK L t x cs := toPairs_ok (fun _ => True) (fun _ ht hx => toVal_RT hr 9 9 (Nat.le_refl _) (fun _ _ => trivial) ht hx) (fun _ _ => trivial) h hx
    exact ⟨RV.val (t := .agg t) hk, .inl ⟨x, rfl, hk⟩⟩
  · cases hc
    exact ⟨.strct h, .inr rfl⟩
theorem Wf_flds : ∀ {t : Ty}, WfB true t = true → Flds t
  | .pair a b, h => by
    simp only [WfB, Bool.and_eq_true] at h
    exact Wf_flds (t := b) h.2
  | .unit, _ => trivial
  | .int _, h => by simp [WfB] at h
  | .bool, h => by simp [WfB] at h
  | .err, h => by simp [WfB] at h
  | .str, h => by simp [WfB] at h
  | .agg _, h => by simp [WfB] at h
  | .slice _ _, h => by simp [WfB] at h
theorem RK_dflt : ∀ (t : Ty), RK L t t.dflt (zc t)
  | .err => .inl ⟨rfl, rfl⟩
  | .int k => rfl
  | .bool => rfl
  | .str => rfl
  | .unit => rfl
  | .pair a b => ⟨_, _, rfl, RK_dflt a, RK_dflt b⟩
  | .agg t => RK_dflt t
  | .slice e t => ⟨none, 0, rfl, Nat.le_refl _, fun h => absurd rfl h⟩
theorem dflt_ok : ∀ (t : Ty), (WfB false t = true → RT L γ t (dfltSV t) (zc t)) ∧ (WfB true t = true → RTs L γ t (dfltSV.go t) (zc t))
  | .int k => ⟨fun _ => .val rfl, fun h => by simp [WfB] at h⟩
  | .bool => ⟨fun _ => .val rfl, fun h => by simp [WfB] at h⟩
  | .err => ⟨fun _ => .val (RK_dflt (L := L) .err), fun h => by simp [WfB] at h⟩
  | .str => ⟨fun _ => .val rfl, fun h => by simp [WfB] at h⟩
  | .unit => ⟨fun h => by simp [WfB] at h, fun _ => .nil⟩
  | .pair a b => ⟨fun h => by simp [WfB] at h, fun h => by
      simp only [WfB, Bool.and_eq_true] at h
      exact .cons ((dflt_ok a).1 h.1) ((dflt_ok b).2 h.2)⟩
  | .agg t => ⟨fun h => .strct ((dflt_ok t).2 h), fun h => by simp [WfB] at h⟩
  | .slice e t => ⟨fun _ => .nilS, fun h => by simp [WfB] at h⟩

/-! ### Fields put -/
/-- Cells with others in their midst. -/
def splice (cs : List Value) (o : Nat) (c : List Value) : List Value := cs.take o ++ c ++ cs.drop (o + c.length)
theorem splice_left {c d e : List Value} (h : c.length = d.length) : splice (c ++ e) 0 d = d ++ e := by
  simp [splice, ← h]
theorem splice_right {c d e : List Value} {o : Nat} : splice (c ++ d) (c.length + o) e = c ++ splice d o e := by
  simp only [splice, List.take_append, List.drop_append, Nat.add_assoc, Nat.add_sub_cancel_left, List.append_assoc]
  rw [List.take_of_length_le (by omega), List.drop_eq_nil_of_le (by omega)]
  simp
theorem RTs_put : ∀ {t : Ty} {l : List SV} {cs : List Value}, RTs L γ t l cs → ∀ {f : Nat} {o : Nat} {s : Ty} {v : SV} {c : List Value}, offF t f = some (o, s) → RT L γ s v c → RTs L γ t (l.set f v) (splice cs o c)
  | _, _, _, .nil, f, o, s, v, c, h, _ => by simp [offF] at h
  | _, _, _, .cons (d := d) hv k, 0, o, s, v, c, h, hc => by
    simp only [offF, Option.some.injEq, Prod.mk.injEq] at h
    obtain ⟨rfl, rfl⟩ := h
    rw [splice_left ((RT_len hv).trans (RT_len hc).symm)]
    exact .cons hc k
  | _, _, _, .cons (d := d) hv k, f + 1, o, s, v, c, h, hc => by
    simp only [offF, Option.map_eq_some_iff] at h
    obtain ⟨q, hq, he⟩ := h
    cases he
    rw [← RT_len hv, splice_right]
    exact .cons hv (RTs_put k hq hc)
theorem Wf_offF : ∀ {t : Ty} {f o : Nat} {s : Ty}, WfB true t = true → offF t f = some (o, s) → WfB false s = true
  | .pair a b, 0, o, s, h, ho => by
    simp only [WfB, Bool.and_eq_true] at h
    cases ho
    exact h.1
  | .pair a b, f + 1, o, s, h, ho => by
    simp only [WfB, Bool.and_eq_true] at h
    simp only [offF, Option.map_eq_some_iff] at ho
    obtain ⟨q, hq, he⟩ := ho
    cases he
    exact Wf_offF (t := b) h.2 hq
  | .unit, _, _, _, _, ho => by simp [offF] at ho
  | .int _, _, _, _, h, _ => by simp [WfB] at h
  | .bool, _, _, _, h, _ => by simp [WfB] at h
  | .err, _, _, _, h, _ => by simp [WfB] at h
  | .str, _, _, _, h, _ => by simp [WfB] at h
  | .agg _, _, _, _, h, _ => by simp [WfB] at h
  | .slice _ _, _, _, _, h, _ => by simp [WfB] at h
theorem splice_len {cs c : List Value} {o : Nat} (h : o + c.length ≤ cs.length) : (splice cs o c).length = cs.length := by
  simp [splice]
  omega
theorem splice_get {cs c : List Value} {o : Nat} (h : o + c.length ≤ cs.length) (j : Nat) : (splice cs o c)[j]? = if o ≤ j ∧ j < o + c.length then c[j - o]? else cs[j]? := by
  unfold splice
  by_cases h1 : j < o
  · rw [if_neg (by omega), List.append_assoc, List.getElem?_append_left (by simp; omega), List.getElem?_take, if_pos h1]
  · by_cases h2 : j < o + c.length
    · rw [if_pos ⟨by omega, h2⟩, List.append_assoc, List.getElem?_append_right (by simp; omega)]
      rw [List.getElem?_append_left (by simp; omega)]
      congr 1
      simp
      omega
    · rw [if_neg (by omega), List.getElem?_append_right (by simp; omega), List.getElem?_drop]
      congr 1
      simp
      omega
theorem splice_in {cs c1 c : List Value} {o o' : Nat} (h : Sits c1 cs o) (hl : o + c1.length ≤ cs.length) (h' : o' + c.length ≤ c1.length) : splice cs o (splice c1 o' c) = splice cs (o + o') c := by
  apply List.ext_getElem?
  intro j
  rw [splice_get (by rw [splice_len h']; exact hl), splice_len h']
  by_cases h1 : o ≤ j ∧ j < o + c1.length
  · rw [if_pos h1, splice_get h']
    rw [splice_get (cs := cs) (c := c) (o := o + o') (by omega)]
    by_cases h2 : o' ≤ j - o ∧ j - o < o' + c.length
    · rw [if_pos h2, if_pos (by omega)]
      congr 1
      omega
    · rw [if_neg h2, if_neg (by omega)]
      have := h (j - o) _ (List.getElem?_eq_getElem (by omega))
      rw [List.getElem?_eq_getElem (by omega), ← this]
      congr 1
      omega
  · rw [if_neg h1, splice_get (cs := cs) (c := c) (o := o + o') (by omega), if_neg (by omega)]
theorem svSetP_ok : ∀ {p : List Nat} {t : Ty} {v u z : SV} {cs : List Value} {o : Nat} {s : Ty} {c : List Value}, WfB false t = true → RT L γ t v cs → offP t p = some (o, s) → RT L γ s u c → svSetP p v u = some z → RT L γ t z (splice cs o c) ∧ o + c.length ≤ cs.length
  | [], t, v, u, z, cs, o, s, c, hwf, hv, ho, hu, h => by
    have : (0, t) = (o, s) := by cases t <;> simpa [offP] using ho
    cases this
    cases h
    have h1 : splice cs 0 c = c := by
      have := RT_len hv
      have := RT_len hu
      simp [splice]
      omega
    rw [h1]
    refine ⟨spread_ok hu fun w hw => ?_, by have := RT_len hv; have := RT_len hu; omega⟩
    subst hw
    exact Wf_flds hwf
  | f :: p, t, v, u, z, cs, o, s, c, hwf, hv, ho, hu, h => by
    simp only [svSetP] at h
    have hsp := spread_ok hv (fun w hw => by subst hw; exact Wf_flds hwf)
    split at h
    · rename_i l hl
      simp only [Option.bind_eq_some_iff] at h
      obtain ⟨z1, h1, z2, h2, he⟩ := h
      cases he
      rw [hl] at hsp
      cases hsp with
      | @strct t' _ _ hk =>
        simp only [offP, Option.bind_eq_some_iff, Option.map_eq_some_iff] at ho
        obtain ⟨q, hq, q', hq', he⟩ := ho
        cases he
        obtain ⟨s1, o1, c1, h3, h4, h5⟩ := RTs_get hk h1
        rw [hq] at h3
        cases h3
        have hwf1 : WfB false s1 = true := Wf_offF hwf hq
        obtain ⟨h6, h7⟩ := svSetP_ok hwf1 h4 hq' hu h2
        have h8 := RTs_put hk hq h6
        have hl1 := offF_add hq
        have hlen1 : c1.length = s1.sz := RT_len h4
        have hlen : cs.length = t'.sz := RTs_len hk
        have h9 : splice cs o1 (splice c1 q'.1 c) = splice cs (o1 + q'.1) c := splice_in h5 (by omega) h7
        rw [h9] at h8
        exact ⟨.strct h8, by omega⟩
    · cases h
theorem putF_ok {c : List Value} {o2 : Nat} : ∀ {t : Ty} {x x' : t.den} {f o : Nat} {s : Ty} {g : (s : Ty) → s.den → Option s.den} {cs : List Value}, putF t x f g = some x' → offF t f = some (o, s) →
    (∀ y y' c', g s y = some y' → RK L s y c' → RK L s y' (splice c' o2 c) ∧ o2 + c.length ≤ c'.length) → RK L t x cs → RK L t x' (splice cs (o + o2) c) ∧ o + o2 + c.length ≤ cs.length
  | .pair a b, x, x', 0, o, s, g, cs, h, ho, hg, hk => by
    simp only [putF, Option.bind_eq_some_iff] at h
    obtain ⟨y, hy, he⟩ := h
    cases he
    cases ho
    obtain ⟨c1, d, rfl, h1, h2⟩ := hk
    obtain ⟨h3, h4⟩ := hg _ _ _ hy h1
    refine ⟨⟨splice c1 o2 c, d, ?_, h3, h2⟩, by rw [List.length_append]; omega⟩
    rw [Nat.zero_add]
    simp only [splice, List.append_assoc]
    rw [List.take_append_of_le_length (by omega), List.drop_append_of_le_length (by omega)]
  | .pair a b, x, x', f + 1, o, s, g, cs, h, ho, hg, hk => by
    simp only [putF, Option.bind_eq_some_iff] at h
    obtain ⟨y, hy, he⟩ := h
    cases he
    simp only [offF, Option.map_eq_some_iff] at ho
    obtain ⟨q, hq, he⟩ := ho
    cases he
    obtain ⟨c1, d, rfl, h1, h2⟩ := hk
    obtain ⟨h3, h4⟩ := putF_ok (t := b) hy hq hg h2
    have hl := RK_len h1
    refine ⟨⟨c1, splice d (q.1 + o2) c, ?_, h1, h3⟩, by rw [List.length_append]; omega⟩
    rw [Nat.add_assoc, ← hl, splice_right]
  | .int _, _, _, _, _, _, _, _, h, _, _, _ => by simp [putF] at h
  | .bool, _, _, _, _, _, _, _, h, _, _, _ => by simp [putF] at h
  | .err, _, _, _, _, _, _, _, h, _, _, _ => by simp [putF] at h
  | .str, _, _, _, _, _, _, _, h, _, _, _ => by simp [putF] at h
  | .unit, _, _, _, _, _, _, _, h, _, _, _ => by simp [putF] at h
  | .agg _, _, _, _, _, _, _, _, h, _, _, _ => by simp [putF] at h
  | .slice _ _, _, _, _, _, _, _, _, h, _, _, _ => by simp [putF] at h
theorem putP_ok {s : Ty} {c : List Value} {u : (s : Ty) → Option s.den} (hu : ∀ y, u s = some y → RK L s y c) : ∀ {p : List Nat} {t : Ty} {x x' : t.den} {o : Nat} {cs : List Value}, putP p t x u = some x' → offP t p = some (o, s) →
    RK L t x cs → RK L t x' (splice cs o c) ∧ o + c.length ≤ cs.length
  | [], t, x, x', o, cs, h, ho, hk => by
    have : (0, t) = (o, s) := by cases t <;> simpa [offP] using ho
    cases this
    have h1 := hu x' (by cases s <;> exact h)
    have h2 : splice cs 0 c = c := by
      have := RK_len hk
      have := RK_len h1
      simp [splice]
      omega
    rw [h2]
    exact ⟨h1, by have := RK_len hk; have := RK_len h1; omega⟩
  | f :: p, .agg t, x, x', o, cs, h, ho, hk => by
    simp only [offP, Option.bind_eq_some_iff, Option.map_eq_some_iff] at ho
    obtain ⟨q, hq, q', hq', he⟩ := ho
    cases he
    exact putF_ok (t := t) (x := x) (x' := x') (show putF t x f (fun s y => putP p s y u) = some x' from h) hq (fun y y' c' hy hk' => putP_ok hu hy hq' hk') hk
  | f :: p, .int _, _, _, _, _, h, _, _ => by simp [putP] at h
  | f :: p, .bool, _, _, _, _, h, _, _ => by simp [putP] at h
  | f :: p, .err, _, _, _, _, h, _, _ => by simp [putP] at h
  | f :: p, .str, _, _, _, _, h, _, _ => by simp [putP] at h
  | f :: p, .unit, _, _, _, _, h, _, _ => by simp [putP] at h
  | f :: p, .pair _ _, _, _, _, _, h, _, _ => by simp [putP] at h
  | f :: p, .slice _ _, _, _, _, _, h, _, _ => by simp [putP] at h
end
end Go.Proofs.YtiligfmembmapaaGreatDoor.Abs
/- Operations that leave the memory as it is. -/
set_option linter.unusedVariables false
set_option linter.unusedSimpArgs false
set_option linter.unusedSectionVars false
namespace Go.Proofs.YtiligfmembmapaaGreatDoor.Abs
open Go Go.RowKit

theorem foldl_push_bytes : ∀ (xs : List Int) (s : ByteArray), xs.foldl (fun r n => r.push (UInt8.ofNat n.toNat)) s = ⟨s.data ++ (xs.map fun n => UInt8.ofNat n.toNat).toArray⟩
  | [], s => by simp
  | x :: xs, s => by
    rw [List.foldl_cons, foldl_push_bytes xs]
    congr 1
    apply Array.toList_inj.1
    simp [ByteArray.push]
section
variable {P : Program} {w : World}
theorem loadVar_ok {T : TypeId} {t : Ty} (h : InfoOk P T t) {c : List Value} (hl : c.length = t.sz) {b o : Nat} (hc : ∀ j v, c[j]? = some v → w.cell? ⟨b, o + j, none⟩ = some v) : (loadVar T ⟨b, o, none⟩).run P w = .ok (mk t c) w := by
  have hload : (loadCells ⟨b, o, none⟩ t.sz).run P w = .ok c.toArray w := by
    rw [← hl]
    exact run_loadCells_list w _ c (fun j v hj => by rw [add_lit]; exact hc j v hj)
  simp only [loadVar, Sem.run_bind, h.isAgg, Result.andThen_ok]
  by_cases ha : aggB t = true
  · obtain ⟨u, rfl⟩ : ∃ u, t = .agg u := by cases t <;> simp_all [aggB]
    simp only [aggB, if_true, Sem.run_bind, h.sizeOf, Result.andThen_ok, hload, Sem.run_pure]
    rfl
  · rw [if_neg ha]
    have h1 : t.sz = 1 := by
      rcases h.one with h1 | ⟨u, rfl⟩
      · exact h1
      · simp [aggB] at ha
    obtain ⟨x, rfl⟩ := List.length_eq_one_iff.1 (hl.trans h1)
    have := hc 0 x rfl
    simp only [Nat.add_zero] at this
    rw [run_load, this]
    cases t <;> first | rfl | (simp [aggB] at ha)
end
section
variable {P : Program} {w0 : World} {X : Nat → Prop} {Pr0 : Nat → Nat → Prop} {sl : List SV} {get : Nat → Option Res} {γ : Nat → Option G} {Pr : Nat → Nat → Prop} {a : Act} {w : World} {res : Tab} {r0 : Nat}
theorem Inv.tys (hI : Inv w0 X Pr0 sl get γ Pr a w) (hk : ∀ r x, getR res r = some x → get r = some x) : RowTy γ res := by
  intro r e t xs h
  rcases h with ⟨fr, h⟩ | h
  · obtain ⟨v, css, hv, _⟩ := hI.res r _ (hk r _ h)
    exact ⟨v, hv⟩
  · obtain ⟨v, hv, _⟩ := hI.res r _ (hk r _ h)
    exact ⟨v, hv⟩
theorem load_ptr (hI : Inv w0 X Pr0 sl get γ Pr a w) {r : Nat} {bt s : Ty} {c v : SV} {path : List Nat} {u : Value} {T : TypeId} (hu : RV (Ln Pr w) γ (.ptr r s path) u) (hg : get r = some (.box bt c)) (hT : InfoOk P T s) (hv : svGetP path c = some v) :
    ∃ cs, (Instr.loadAt T u).run P w = .ok (mk s cs) w ∧ RT (Ln Pr w) γ s v cs := by
  obtain ⟨b, arr, T', hb, hh, hr⟩ := hI.res r _ hg
  cases hu with
  | ptr h hp =>
    rw [hb] at h
    cases h
    obtain ⟨s', o', cs, h1, h2, h3⟩ := svGetP_ok hr hv
    rw [hp] at h1
    cases h1
    refine ⟨cs, ?_, h2⟩
    simp only [Instr.loadAt, Instr.sureAddr, Sem.run_bind, Sem.run_pure, Result.andThen_ok]
    refine loadVar_ok hT (RT_len h2) fun j v hj => ?_
    rw [cell_of_row w b _ arr T' (0, 0) hh]
    simpa using h3 j v hj
theorem load_eptr {L : Lk} (hL : ∀ b o v, L b o v → w.cell? ⟨b, o, none⟩ = some v) {s : Ty} {x : s.den} {u : Value} {T : TypeId} (hu : RV L γ (.eptr s x) u) (hT : InfoOk P T s) : ∃ cs, (Instr.loadAt T u).run P w = .ok (mk s cs) w ∧ RK L s x cs := by
  cases hu with
  | eptr h hc =>
    refine ⟨_, ?_, h⟩
    simp only [Instr.loadAt, Instr.sureAddr, Sem.run_bind, Sem.run_pure, Result.andThen_ok]
    exact loadVar_ok hT (RK_len h) fun j v hj => hL _ _ _ (hc j v hj)
/-- An element's cells. -/
theorem row_elem (hI : Inv w0 X Pr0 sl get γ Pr a w) {r : Nat} {e : TypeId} {t : Ty} {xs : List t.den} {fr : Bool} (hg : get r = some (.row e t xs fr)) {b n cap : Nat} (hb : γ r = some (.row e t (.slice (some ⟨b, 0, none⟩) n cap))) {i : Nat} (hi : i < n) :
    n = xs.length ∧ ∃ c, RK (Ln Pr w) t (xs.getD i t.dflt) c ∧ ∀ j v, c[j]? = some v → w.cell? ⟨b, i * t.sz + j, none⟩ = some v := by
  obtain ⟨v, css, hv, he, ho, _⟩ := hI.res r _ hg
  rw [hb] at hv
  cases hv
  rcases ho.2 with ⟨hn, _⟩ | ⟨g, cap', cur, hs, _, hh, hnc, _, _, ht⟩
  · cases hn
  · cases hs
    refine ⟨rfl, ?_⟩
    have hi' : i < css.length := by rw [he.1]; exact hi
    refine ⟨css[i], ?_, fun j u hj => ?_⟩
    · have := he.2 i hi hi'
      rwa [List.getD_eq_getElem?_getD, List.getElem?_eq_getElem hi, Option.getD_some]
    · have hjs : j < t.sz := by
        have := he.lens _ (List.getElem_mem hi')
        rw [← this]
        exact (List.getElem?_eq_some_iff.1 hj).1
      have hfl : css.flatten[i * t.sz + j]? = some u := (flatten_get he.lens (List.getElem?_eq_getElem hi') hjs).trans hj
      have := ho.cells (g := b) rfl _ _ hfl
      rwa [add_lit, Nat.zero_add] at this
theorem load_rptr (hI : Inv w0 X Pr0 sl get γ Pr a w) {r : Nat} {e : TypeId} {t s s0 : Ty} {xs : List t.den} {fr : Bool} {y : s.den} {i : Int} {path : List Nat} {u : Value} {T : TypeId} (hu : RV (Ln Pr w) γ (.rptr r s0 i path) u) (hg : get r = some (.row e t xs fr)) (hT : InfoOk P T s)
    (hv : getP path t (xs.getD i.toNat t.dflt) = some (.val s y)) : ∃ cs, (Instr.loadAt T u).run P w = .ok (mk s cs) w ∧ RK (Ln Pr w) s y cs := by
  cases hu with
  | rptr h h0 hn hp =>
    obtain ⟨v, css, hv', _⟩ := hI.res r _ hg
    rw [h] at hv'
    cases hv'
    obtain ⟨_, c, h1, h2⟩ := row_elem hI hg h (i := i.toNat) (by omega)
    obtain ⟨s', y', o', he, ho, hc⟩ := getP_ok (L := Ln Pr w) hv
    cases he
    rw [hp] at ho
    cases ho
    obtain ⟨c', h3, h4⟩ := hc c h1
    refine ⟨c', ?_, h3⟩
    simp only [Instr.loadAt, Instr.sureAddr, Sem.run_bind, Sem.run_pure, Result.andThen_ok]
    refine loadVar_ok hT (RK_len h3) fun j v hj => ?_
    rw [Nat.add_assoc]
    exact h2 _ _ (h4 j v hj)
theorem field_ok (hr : RowTy γ res) {L : Lk} {T : TypeId} {t : Ty} {x v : SV} {f : Nat} {u : Value} (hU : UnderOk P T t) (hx : RV L γ x u) (hf : fits res 9 t x = true) (hg : svGet x f = some v) : ∃ s cs, (Instr.field T u f).run P w = .ok (mk s cs) w ∧ RT L γ s v cs := by
  obtain ⟨cs, rfl, hrt⟩ := fits_RV hr hx hf
  obtain ⟨t', s, o, c, rfl, ho, h1, h2⟩ := svGet_ok hrt hg
  obtain ⟨fs, hfs, hok⟩ := hU
  obtain ⟨fl, h3, h4, h5, h6⟩ := FOk_get hok ho
  refine ⟨s, c, ?_, h1⟩
  have h3' : fs[f]? = some fl := by simpa using h3
  simp only [Instr.field, Sem.run_bind, run_underlying hfs, Result.andThen_ok, h3']
  simp only [mk, asAgg, Sem.run_bind, Sem.run_pure, Result.andThen_ok]
  rw [h4, Nat.zero_add]
  exact part_ok h6 (RT_len h1) h2 w
theorem fieldAddr_ok {T : TypeId} {t s : Ty} {f o' : Nat} {b o : Nat} (hU : UnderOk P T (.agg t)) (hf : offF t f = some (o', s)) : (Instr.fieldAt T (.pointer (some ⟨b, o, none⟩)) f).run P w = .ok (.pointer (some ⟨b, o + o', none⟩)) w := by
  obtain ⟨fs, hfs, hok⟩ := hU
  obtain ⟨fl, h3, h4, h5, h6⟩ := FOk_get hok hf
  have h3' : fs[f]? = some fl := by simpa using h3
  simp only [Instr.fieldAt, Sem.run_bind, run_underlying hfs, Result.andThen_ok, h3', Instr.sureAddr, Sem.run_pure, fieldPlace, h6.sizeOf]
  rw [if_neg (by omega)]
  simp only [Sem.run_pure, Result.andThen_ok, add_lit, h4, Nat.zero_add]
theorem bytes_ok {src dst e : TypeId} {xs : List Int} {u : Value} (hs : P.underlying src = some (.slice e)) (he : P.underlying e = some (.int .u8)) (hd : P.underlying dst = some .string) (h : RK (LnT w) (.slice e (.int .u8)) xs [u]) :
    (convert src dst u).run P w = .ok (.string (strOfNums xs)) w := by
  obtain ⟨A, cap, hu, hcap, hA⟩ := h
  cases hu
  rcases A with _ | ad
  · have h0 : xs = [] := by
      by_cases hx : xs = []
      · exact hx
      · obtain ⟨b, o, h, _⟩ := hA hx
        cases h
    subst h0
    exact run_convert_bytes_nil w src e hs he 0 cap dst hd
  · have hl : (loadCells ad (xs : List Int).length).run P w = .ok (xs.map (Value.int .u8)).toArray w := by
      by_cases hx : xs = []
      · subst hx
        exact run_loadCells_list (P := P) w ad [] (fun j v hj => by simp at hj)
      · obtain ⟨b, o, h, hh⟩ := hA hx
        cases h
        have := run_loadCells_list (P := P) w ⟨b, o, none⟩ (xs.map (Value.int .u8)) (fun j v hj => by
          rw [List.getElem?_map, Option.map_eq_some_iff] at hj
          obtain ⟨x, hj, rfl⟩ := hj
          obtain ⟨hjl, hj⟩ := List.getElem?_eq_some_iff.1 hj
          obtain ⟨c, h1, h2⟩ := hh j hjl
          rw [show c = _ from h1] at h2
          have := (h2 0 _ rfl).2
          rw [add_lit]
          simp only [Ty.sz, Nat.mul_one, Nat.add_zero] at this
          rw [this]
          exact congrArg (fun z => some (Value.int IntKind.u8 z)) hj)
        simpa using this
    rw [run_convert_bytes_string w src dst e _ _ cap hs he hd, run_bytesToString w ad _ cap xs hl, foldl_push_bytes]
    simp [strOfNums, ByteArray.empty, ByteArray.emptyWithCapacity]
    rfl
end
end Go.Proofs.YtiligfmembmapaaGreatDoor.Abs
/- The reader's word on an operation, and the model's: those that leave the memory as it is. -/
set_option linter.unusedVariables false
set_option linter.unusedSimpArgs false
set_option linter.unusedSectionVars false
namespace Go.Proofs.YtiligfmembmapaaGreatDoor.Abs
open Go Go.RowKit

section
variable {P : Program} {E : Env} {call : (I : FnI) → List SV → Tab → Option (I.sh.den × I.bx.den)} {w0 : World} {X : Nat → Prop} {Pr0 : Nat → Nat → Prop} {sl : List SV} {get : Nat → Option Res} {γ : Nat → Option G} {Pr : Nat → Nat → Prop}
  {a : Act} {w : World} {res : Tab} {r0 : Nat} {o : Oper} {vs : List SV} {v : SV} {u : Up}
/-- What is known ahead of an operation. -/
structure Ahead (P : Program) (E : Env) (call : (I : FnI) → List SV → Tab → Option (I.sh.den × I.bx.den)) (w0 : World) (X : Nat → Prop) (Pr0 : Nat → Nat → Prop) (sl : List SV) (get : Nat → Option Res) (γ : Nat → Option G) (Pr : Nat → Nat → Prop) (a : Act) (w : World)
    (res : Tab) (r0 : Nat) (o : Oper) (vs : List SV) (v : SV) (u : Up) : Prop where
  env : EnvOk P E
  inv : Inv w0 X Pr0 sl get γ Pr a w
  know : ∀ r x, getR res r = some x → get r = some x
  free : ∀ r, r0 ≤ r → r < r0 + 64 → γ r = none
  ops : RVs (Ln Pr w) γ vs ((opnds o.op).map a.eval)
  says : core E call o vs res r0 ans = some (v, u)
abbrev Done (P : Program) (w0 : World) (X : Nat → Prop) (Pr0 : Nat → Nat → Prop) (sl : List SV) (get : Nat → Option Res) (γ : Nat → Option G) (Pr : Nat → Nat → Prop) (a : Act) (w : World) (r0 : Nat) (o : Oper) (v : SV) (u : Up) : Prop :=
  Owes P w0 X Pr0 o sl get γ Pr r0 a w v (updG get u)
theorem RVs_one {L : Lk} {x : Value} (h : RVs L γ vs [x]) : ∃ p, vs = [p] ∧ RV L γ p x := by
  cases h with
  | cons h k =>
    cases k
    exact ⟨_, rfl, h⟩
theorem RVs_two {L : Lk} {x y : Value} (h : RVs L γ vs [x, y]) : ∃ p q, vs = [p, q] ∧ RV L γ p x ∧ RV L γ q y := by
  cases h with
  | cons h k =>
    obtain ⟨q, rfl, hq⟩ := RVs_one k
    exact ⟨_, _, rfl, h, hq⟩
theorem RVs_three {L : Lk} {x y z : Value} (h : RVs L γ vs [x, y, z]) : ∃ p q r, vs = [p, q, r] ∧ RV L γ p x ∧ RV L γ q y ∧ RV L γ r z := by
  cases h with
  | cons h k =>
    obtain ⟨q, r, rfl, hq, hr⟩ := RVs_two k
    exact ⟨_, _, _, rfl, h, hq, hr⟩
theorem nth_ok (hE : EnvOk P E) {T : TypeId} {t : Ty} (h : nth E.ty T = some t) : UnderOk P T t ∧ InfoOk P T t := hE.ty T t h
theorem op_load (H : Ahead P E call w0 X Pr0 sl get γ Pr a w res r0 o vs v u) {T : TypeId} {i : Operand} (hop : o.op = .load T i) : Done P w0 X Pr0 sl get γ Pr a w r0 o v u := by
  obtain ⟨hE, hI, hk, hfr, hv, hc⟩ := H
  rw [hop] at hv
  obtain ⟨p, rfl, hp⟩ := RVs_one hv
  unfold core at hc
  simp only [hop] at hc
  have ho : execOp a.eval o = (do pure (.value (← Instr.loadAt T (a.eval i)))) := by simp only [execOp, hop]
  split at hc
  · rename_i t r s path hT
    split at hc
    · rename_i hst
      subst hst
      obtain ⟨hU, hT⟩ := nth_ok hE hT
      split at hc
      · rename_i bt c hg
        split at hc
        · rename_i l hl
          obtain ⟨cs, h1, h2⟩ := load_ptr (P := P) hI hp (hk _ _ hg) hT hl
          split at hc
          · rename_i t'
            split at hc
            · rename_i v' hcl
              cases hc
              cases h2 with
              | strct h2 => exact owes_pure hI ho h1 (closeUp_ok h2 hcl).1
            · cases hc
          · cases hc
        · rename_i v' hl hne
          cases hc
          obtain ⟨cs, h1, h2⟩ := load_ptr (P := P) hI hp (hk _ _ hg) hT hne
          exact owes_pure hI ho h1 (RT_RV h2)
        · cases hc
      · cases hc
    · cases hc
  · rename_i t s x hT
    split at hc
    · rename_i hst
      subst hst
      cases hc
      obtain ⟨cs, h1, h2⟩ := load_eptr (P := P) (w := w) (fun b o v h => h.2) hp (nth_ok hE hT).2
      exact owes_pure hI ho h1 (.val h2)
    · cases hc
  · rename_i t r s0 i' path hT
    split at hc
    · rename_i e u' xs fr hg
      split at hc
      · rename_i s y hy
        split at hc
        · rename_i hst
          subst hst
          cases hc
          obtain ⟨cs, h1, h2⟩ := load_rptr (P := P) hI hp (hk _ _ hg) (nth_ok hE hT).2 hy
          exact owes_pure hI ho h1 (.val h2)
        · cases hc
      · cases hc
    · cases hc
  · cases hc
theorem op_field (H : Ahead P E call w0 X Pr0 sl get γ Pr a w res r0 o vs v u) {T : TypeId} {i : Operand} {f : Nat} (hop : o.op = .field T i f) : Done P w0 X Pr0 sl get γ Pr a w r0 o v u := by
  obtain ⟨hE, hI, hk, hfr, hv, hc⟩ := H
  rw [hop] at hv
  obtain ⟨p, rfl, hp⟩ := RVs_one hv
  unfold core at hc
  simp only [hop] at hc
  have ho : execOp a.eval o = (do pure (.value (← Instr.field T (a.eval i) f))) := by simp only [execOp, hop]
  split at hc
  · rename_i t hT
    split at hc
    · rename_i hf
      split at hc
      · rename_i v' hg
        cases hc
        obtain ⟨s, cs, h1, h2⟩ := field_ok (P := P) (w := w) (hI.tys hk) (nth_ok hE hT).1 hp hf hg
        exact owes_pure hI ho h1 (RT_RV h2)
      · cases hc
    · cases hc
  · cases hc
theorem op_fieldAddr (H : Ahead P E call w0 X Pr0 sl get γ Pr a w res r0 o vs v u) {T : TypeId} {i : Operand} {f : Nat} (hop : o.op = .fieldAddr T i f) : Done P w0 X Pr0 sl get γ Pr a w r0 o v u := by
  obtain ⟨hE, hI, hk, hfr, hv, hc⟩ := H
  rw [hop] at hv
  obtain ⟨p, rfl, hp⟩ := RVs_one hv
  unfold core at hc
  simp only [hop] at hc
  have ho : execOp a.eval o = (do pure (.value (← Instr.fieldAt T (a.eval i) f))) := by simp only [execOp, hop]
  split at hc
  · rename_i t hT
    have hU := (nth_ok hE hT).1
    split at hc
    · rename_i r s path
      split at hc
      · rename_i o' s' hf
        split at hc
        · rename_i hst
          cases hc
          generalize hx : a.eval i = x at *
          cases hp with
          | ptr h hp' => exact owes_pure hI ho (fieldAddr_ok hU hf) (.ptr h (offP_snoc hp' hst hf))
        · cases hc
      · cases hc
    · rename_i s x
      split at hc
      · rename_i x' hx'
        obtain ⟨rfl, rfl⟩ := cast_eq hx'
        split at hc
        · rename_i s y hg
          cases hc
          obtain ⟨s1, y1, o', he, hf, hcs⟩ := getF_ok (L := Ln Pr w) hg
          cases he
          generalize hx : a.eval i = x at *
          cases hp with
          | eptr h hcell =>
            obtain ⟨c, h1, h2⟩ := hcs _ h
            refine owes_pure hI ho (fieldAddr_ok hU hf) (.eptr h1 fun j v hj => ?_)
            rw [Nat.add_assoc]
            exact hcell _ _ (h2 j v hj)
        · cases hc
      · cases hc
    · rename_i r s n path
      split at hc
      · rename_i o' s' hf
        split at hc
        · rename_i hst
          cases hc
          generalize hx : a.eval i = x at *
          cases hp with
          | rptr h h0 hn hp' =>
            refine owes_pure hI ho (fieldAddr_ok hU hf) ?_
            rw [Nat.add_assoc]
            exact .rptr h h0 hn (offP_snoc hp' hst hf)
        · cases hc
      · cases hc
    · cases hc
  · cases hc
theorem op_nilCheck (H : Ahead P E call w0 X Pr0 sl get γ Pr a w res r0 o vs v u) {i : Operand} (hop : o.op = .nilCheck i) : Done P w0 X Pr0 sl get γ Pr a w r0 o v u := by
  obtain ⟨hE, hI, hk, hfr, hv, hc⟩ := H
  rw [hop] at hv
  obtain ⟨p, rfl, hp⟩ := RVs_one hv
  unfold core at hc
  simp only [hop] at hc
  have main : ∀ ad, a.eval i = .pointer (some ad) → Owes P w0 X Pr0 o sl get γ Pr r0 a w p (updG get []) := by
    intro ad hx next Q h
    unfold Oper.wp
    have : (execOp a.eval o).run P w = .ok (.value (.pointer (some ad))) w := by simp only [execOp, hop, hx, Sem.run_pure]
    rw [this]
    exact h _ γ Pr w (hx ▸ hp) hI (fun _ _ => rfl)
  generalize hx : a.eval i = x at *
  split at hc
  · cases hc
    cases hp with
    | ptr h hp' => exact main _ rfl
  · cases hc
    cases hp with
    | eptr h hp' => exact main _ rfl
  · cases hc
    cases hp with
    | rptr h h0 hn hp' => exact main _ rfl
  · cases hc
theorem op_extract (H : Ahead P E call w0 X Pr0 sl get γ Pr a w res r0 o vs v u) {i : Operand} {f : Nat} (hop : o.op = .extract i f) : Done P w0 X Pr0 sl get γ Pr a w r0 o v u := by
  obtain ⟨hE, hI, hk, hfr, hv, hc⟩ := H
  rw [hop] at hv
  obtain ⟨p, rfl, hp⟩ := RVs_one hv
  unfold core at hc
  simp only [hop] at hc
  have ho : execOp a.eval o = (do pure (.value (← Instr.extract (a.eval i) f))) := by simp only [execOp, hop]
  split at hc
  · rename_i l
    split at hc
    · rename_i v' hg
      cases hc
      generalize hx : a.eval i = x at *
      cases hp with
      | tup h =>
        obtain ⟨u, h1, h2⟩ := RVs_get h hg
        refine owes_pure hI ho ?_ h2
        simp [Instr.extract, h1]
    · cases hc
  · cases hc
theorem op_makeFunc (H : Ahead P E call w0 X Pr0 sl get γ Pr a w res r0 o vs v u) {fn : Fn} {first captured : Array Operand} (hop : o.op = .makeFunc fn first captured) : Done P w0 X Pr0 sl get γ Pr a w r0 o v u := by
  obtain ⟨hE, hI, hk, hfr, hv, hc⟩ := H
  rw [hop] at hv
  unfold core at hc
  simp only [hop] at hc
  have ho : execOp a.eval o = (do pure (.value (← Instr.makeFunc fn (first.map a.eval) (captured.map a.eval)))) := by simp only [execOp, hop]
  cases fn with
  | func g =>
    have hc' : (match first.size with
      | 0 => ans (.fn g vs) []
      | _ => none) = some (v, u) := by
      rcases vs with _ | ⟨v1, _ | ⟨v2, _ | ⟨v3, vs⟩⟩⟩ <;> exact hc
    split at hc'
    · rename_i hs
      cases hc'
      have hf : first = #[] := Array.size_eq_zero_iff.1 hs
      subst hf
      have : (captured.map a.eval) = (captured.toList.map a.eval).toArray := by
        apply Array.toList_inj.1
        simp
      refine owes_pure (u := .func (.func g) #[] (captured.toList.map a.eval).toArray) hI ho ?_ ?_
      · rw [this, Array.map_empty]
        rfl
      refine .fn ?_
      simpa [opnds] using hv
    · cases hc'
  | _ => rcases vs with _ | ⟨v1, _ | ⟨v2, _ | ⟨v3, vs⟩⟩⟩ <;> cases hc
theorem op_unOp (H : Ahead P E call w0 X Pr0 sl get γ Pr a w res r0 o vs v u) {op : UnOp} {T : TypeId} {i : Operand} (hop : o.op = .unOp op T i) : Done P w0 X Pr0 sl get γ Pr a w r0 o v u := by
  obtain ⟨hE, hI, hk, hfr, hv, hc⟩ := H
  rw [hop] at hv
  obtain ⟨p, rfl, hp⟩ := RVs_one hv
  unfold core at hc
  simp only [hop] at hc
  have ho : execOp a.eval o = (do pure (.value (← Op.unary op (a.eval i)))) := by simp only [execOp, hop]
  split at hc
  · cases hc
    rw [val_int hp] at ho
    exact owes_pure hI ho (by simp [Op.unary, Op.intArith]) int_val
  · cases hc
    rw [val_bool hp] at ho
    exact owes_pure hI ho (by simp [Op.unary]) bool_val
  · cases hc
    rw [val_int hp] at ho
    exact owes_pure hI ho (by simp only [Op.unary]; simp [go_sem]) int_val
  · cases hc
theorem op_pick (H : Ahead P E call w0 X Pr0 sl get γ Pr a w res r0 o vs v u) {i j k : Operand} (hop : o.op = .pick i j k) : Done P w0 X Pr0 sl get γ Pr a w r0 o v u := by
  obtain ⟨hE, hI, hk, hfr, hv, hc⟩ := H
  rw [hop] at hv
  obtain ⟨p, q, r, rfl, hp, hq, hr⟩ := RVs_three hv
  unfold core at hc
  simp only [hop] at hc
  have ho : ∀ x, a.eval i = .bool x → (execOp a.eval o).run P w = .ok (.value (if x = true then a.eval j else a.eval k)) w := fun x hx => by
    simp only [execOp, hop, hx, asBool, Sem.run_bind, Sem.run_pure, Result.andThen_ok]
  split at hc
  · rename_i x y z
    cases hc
    refine owes_run hI (ho x (val_bool hp)) ?_
    rw [val_bool hq, val_bool hr]
    cases x
    · exact bool_val
    · exact bool_val
  · rename_i x hne
    split at hc
    · rename_i hx
      cases hc
      refine owes_run hI (ho x (val_bool hp)) ?_
      rw [if_pos hx]
      exact hq
    · rename_i hx
      cases hc
      refine owes_run hI (ho x (val_bool hp)) ?_
      rw [if_neg hx]
      exact hr
  · cases hc
theorem op_index (H : Ahead P E call w0 X Pr0 sl get γ Pr a w res r0 o vs v u) {T : TypeId} {i j : Operand} (hop : o.op = .index T i j) : Done P w0 X Pr0 sl get γ Pr a w r0 o v u := by
  obtain ⟨hE, hI, hk, hfr, hv, hc⟩ := H
  rw [hop] at hv
  obtain ⟨p, q, rfl, hp, hq⟩ := RVs_two hv
  unfold core at hc
  simp only [hop] at hc
  have ho : execOp a.eval o = (do pure (.value (← Instr.index T (a.eval i) (a.eval j)))) := by simp only [execOp, hop]
  split at hc
  · rename_i s k n hT
    split at hc
    · rename_i h0
      split at hc
      · rename_i h1
        cases hc
        rw [val_str hp, val_int hq] at ho
        refine owes_pure hI ho ?_ int_val
        rw [run_index_string _ _ _ _ _ (nth_ok hE hT).1, dif_pos ⟨h0, h1⟩]
        have hs : Int.toNat n < ByteArray.size s := (Int.toNat_lt h0).2 h1
        simp [bt, hs]
      · cases hc
    · cases hc
  · cases hc
theorem op_convert (H : Ahead P E call w0 X Pr0 sl get γ Pr a w res r0 o vs v u) {S D : TypeId} {i : Operand} (hop : o.op = .convert S D i) : Done P w0 X Pr0 sl get γ Pr a w r0 o v u := by
  obtain ⟨hE, hI, hk, hfr, hv, hc⟩ := H
  rw [hop] at hv
  obtain ⟨p, rfl, hp⟩ := RVs_one hv
  unfold core at hc
  simp only [hop] at hc
  have ho : execOp a.eval o = (do pure (.value (← convert S D (a.eval i)))) := by simp only [execOp, hop]
  have hsome : ∀ {T t}, nth E.ty T = some t → ∃ d, P.underlying T = some d := fun h => by
    obtain ⟨d, hd, _⟩ := (nth_ok hE h).2.agg
    exact ⟨d, hd⟩
  split at hc
  · rename_i t0 k k' n hS hD
    cases hc
    rw [val_int hp] at ho
    obtain ⟨d, hd⟩ := hsome hS
    refine owes_pure hI ho ?_ int_val
    simp only [convert, Sem.run_bind, run_underlying hd, run_underlying (nth_ok hE hD).1, Result.andThen_ok]
    cases d <;> simp [Conv.intToInt]
  · rename_i t0 s hS hD
    cases hc
    rw [val_str hp] at ho
    obtain ⟨d, hd⟩ := hsome hS
    refine owes_pure hI ho ?_ str_val
    simp only [convert, Sem.run_bind, run_underlying hd, run_underlying (nth_ok hE hD).1, Result.andThen_ok]
    cases d <;> simp
  · rename_i e hS hD hne
    split at hc
    · rename_i xs hl
      cases hc
      obtain ⟨cs, hx, hrk⟩ := readT hI hk hp hl
      rw [hx] at ho
      obtain ⟨hs, hei, _, hu8⟩ := (nth_ok hE hS).1
      have hcs : cs = [mk (.slice e (.int .u8)) cs] := by
        obtain ⟨A, cap, rfl, _⟩ := hrk
        rfl
      rw [hcs] at hrk
      exact owes_pure hI ho (bytes_ok hs (hu8 rfl) (nth_ok hE hD).1 hrk) str_val
    · cases hc
  · cases hc
end
end Go.Proofs.YtiligfmembmapaaGreatDoor.Abs
/- Places, operators, cuts: what leaves the memory as it is (rows may be shared from now on). -/
set_option linter.unusedVariables false
set_option linter.unusedSimpArgs false
set_option linter.unusedSectionVars false
namespace Go.Proofs.YtiligfmembmapaaGreatDoor.Abs
open Go Go.RowKit

section
variable {P : Program} {E : Env} {call : (I : FnI) → List SV → Tab → Option (I.sh.den × I.bx.den)} {w0 : World} {X : Nat → Prop} {Pr0 : Nat → Nat → Prop} {sl : List SV} {get : Nat → Option Res} {γ : Nat → Option G} {Pr : Nat → Nat → Prop}
  {a : Act} {w : World} {res : Tab} {r0 : Nat} {o : Oper} {vs : List SV} {v : SV} {u : Up}
theorem RK_at {L : Lk} {e : TypeId} {t : Ty} {xs : List t.den} {u : Value} (h : RK L (.slice e t) xs [u]) {i : Nat} (hi : i < xs.length) :
    ∃ b o cap, u = .slice (some ⟨b, o, none⟩) xs.length cap ∧ ∃ c, RK L t (xs.getD i t.dflt) c ∧ ∀ j v, c[j]? = some v → L b (o + i * t.sz + j) v := by
  obtain ⟨A, cap, hu, hcap, hA⟩ := h
  cases hu
  obtain ⟨b, o, rfl, hh⟩ := hA (by intro h; subst h; simp at hi)
  obtain ⟨c, h1, h2⟩ := hh i hi
  refine ⟨b, o, cap, rfl, c, ?_, h2⟩
  rwa [List.getD_eq_getElem?_getD, List.getElem?_eq_getElem hi, Option.getD_some]
theorem indexAt_ok {T e : TypeId} {t : Ty} {k : IntKind} {n : Int} {b o len cap : Nat} (hU : UnderOk P T (.slice e t)) (h0 : 0 ≤ n) (h1 : n < len) : (Instr.indexAt T (.slice (some ⟨b, o, none⟩) len cap) (.int k n)).run P w = .ok (.pointer (some ⟨b, o + n.toNat * t.sz, none⟩)) w := by
  obtain ⟨hT, hei, hsz, _⟩ := hU
  have hel : P.elem T = e := by simp [Program.elem, hT]
  rw [run_indexAt_slice (h := by rw [hel]; exact hT), if_pos ⟨h0, h1⟩, hel, hei.sizeOf]
  simp only [Result.andThen_ok, add_lit]
theorem eptr_ok {L : Lk} (hI : Inv w0 X Pr0 sl get γ Pr a w) {T e : TypeId} {t : Ty} {xs : List t.den} {k : IntKind} {n : Int} {x : Value} (hU : UnderOk P T (.slice e t)) (hx : RK L (.slice e t) xs [x]) (h0 : 0 ≤ n) (h1 : n < xs.length) :
    ∃ z, (Instr.indexAt T x (.int k n)).run P w = .ok z w ∧ RV L γ (.eptr t (xs.getD n.toNat t.dflt)) z := by
  obtain ⟨b, o, cap, rfl, c, h2, h3⟩ := RK_at hx (i := n.toNat) (by omega)
  exact ⟨_, indexAt_ok hU h0 h1, .eptr h2 h3⟩
theorem tail_num {l n : Int} {len : Nat} (h0 : 0 ≤ l) (h1 : 0 ≤ n) (h2 : n < (len : Int) - l) (h3 : l < len) : 0 ≤ l + n ∧ l + n < (len : Int) ∧ (l + n).toNat = l.toNat + n.toNat ∧ n < ((len - l.toNat : Nat) : Int) := by omega
theorem tail_len {l : Int} {len : Nat} (h0 : 0 ≤ l) (h3 : l < len) : (len : Int) - l = ((len - l.toNat : Nat) : Int) := by omega
theorem op_indexAddr (H : Ahead P E call w0 X Pr0 sl get γ Pr a w res r0 o vs v u) {T : TypeId} {i j : Operand} (hop : o.op = .indexAddr T i j) : Done P w0 X Pr0 sl get γ Pr a w r0 o v u := by
  obtain ⟨hE, hI, hk, hfr, hv, hc⟩ := H
  rw [hop] at hv
  obtain ⟨p, q, rfl, hp, hq⟩ := RVs_two hv
  unfold core at hc
  simp only [hop] at hc
  have ho : execOp a.eval o = (do pure (.value (← Instr.indexAt T (a.eval i) (a.eval j)))) := by simp only [execOp, hop]
  split at hc
  · rename_i e t k n hT
    have hU := (nth_ok hE hT).1
    rw [val_int hq] at ho
    split at hc
    · rename_i r
      split at hc
      · rename_i e' t' xs fr hg
        split at hc
        · rename_i hst
          cases hst
          have hres := hI.res r _ (hk _ _ hg)
          split at hc
          · split at hc
            · rename_i h0
              split at hc
              · rename_i h1
                cases hc
                obtain ⟨v', css, hv', he, hown, _⟩ := hres
                generalize hx : a.eval i = x at *
                cases hp with
                | row h =>
                  rw [hv'] at h
                  cases h
                  rcases hown.2 with ⟨rfl, hn⟩ | ⟨g, cap, cur, rfl, _, hh, hnc, _⟩
                  · exact absurd h1 (by rw [hn]; exact Int.not_lt.2 h0)
                  · have hp : RV (Ln Pr w) γ (.rptr r t n []) (.pointer (some ⟨g, n.toNat * t.sz + 0, none⟩)) := .rptr hv' h0 h1 (by cases t <;> rfl)
                    refine owes_pure hI ho ?_ hp
                    rw [indexAt_ok hU h0 h1, Nat.zero_add, Nat.add_zero]
              · cases hc
            · cases hc
          · split at hc
            · rename_i h0
              split at hc
              · rename_i h1
                cases hc
                obtain ⟨v', hv', hrk⟩ := row_RK (Pr' := Pr) hres (fun _ _ h => h) (by
                  obtain ⟨v', css, hv', he, hown, hf⟩ := hres
                  intro b hb
                  refine hf rfl b ?_
                  simpa [blk, hv'] using hb)
                generalize hx : a.eval i = x at *
                cases hp with
                | row h =>
                  rw [hv'] at h
                  cases h
                  obtain ⟨z, h2, h3⟩ := eptr_ok (k := k) hI hU hrk h0 h1
                  exact owes_pure hI ho h2 h3
              · cases hc
            · cases hc
        · cases hc
      · rename_i e' t' xs hg
        split at hc
        · rename_i hst
          cases hst
          obtain ⟨v', hv', hrk⟩ := hI.res r _ (hk _ _ hg)
          split at hc
          · rename_i h0
            split at hc
            · rename_i h1
              cases hc
              generalize hx : a.eval i = x at *
              cases hp with
              | row h =>
                rw [hv'] at h
                cases h
                obtain ⟨z, h2, h3⟩ := eptr_ok (k := k) hI hU hrk h0 h1
                exact owes_pure hI ho h2 h3
            · cases hc
          · cases hc
        · cases hc
      · cases hc
    · rename_i s x
      split at hc
      · rename_i xs hx
        obtain ⟨rfl, rfl⟩ := cast_eq hx
        split at hc
        · rename_i h0
          split at hc
          · rename_i h1
            cases hc
            generalize hx : a.eval i = x at *
            cases hp with
            | val h =>
              rename_i cs
              have hcs : cs = [mk (.slice e t) cs] := by
                obtain ⟨A, cap, rfl, _⟩ := h
                rfl
              rw [hcs] at h
              obtain ⟨z, h2, h3⟩ := eptr_ok (k := k) hI hU h h0 h1
              exact owes_pure hI ho h2 h3
          · cases hc
        · cases hc
      · cases hc
    · rename_i r l
      split at hc
      · rename_i e' t' xs hg
        split at hc
        · rename_i hst
          cases hst
          split at hc
          · rename_i h0
            split at hc
            · rename_i h1
              cases hc
              have hres := hI.res r _ (hk _ _ hg)
              obtain ⟨v', css, hv', he, hown, _⟩ := hres
              generalize hx : a.eval i = x at *
              cases hp with
              | tail h hl0 hln hcap =>
                rename_i b m cap e2 t2
                rw [h] at hv'
                cases hv'
                rcases hown.2 with ⟨hnil, _⟩ | ⟨g, cap', cur, hs, _⟩
                · cases hnil
                · cases hs
                  obtain ⟨g1, g2, g3, g4⟩ := tail_num hl0 h0 h1 hln
                  have hp : RV (Ln Pr w) γ (.rptr r t (l + n) []) (.pointer (some ⟨b, Int.toNat (l + n) * t.sz + 0, none⟩)) := .rptr h g1 g2 (by cases t <;> rfl)
                  refine owes_pure hI ho ?_ hp
                  rw [indexAt_ok hU h0 g4, g3, Nat.add_zero, Nat.add_mul]
            · cases hc
          · cases hc
        · cases hc
      · cases hc
    · cases hc
  · cases hc
/-! ### Operators -/
theorem binOp2_ok (hE : EnvOk P E) {op : BinOp} {T : TypeId} {x y : SV} {p q : Value} {L : Lk} (hx : RV L γ x p) (hy : RV L γ y q) (h : binOp2 E op T x y ans = some (v, u)) :
    u = [] ∧ (∀ i j, (eqGuard op T i j p q).run P w = .ok () w) ∧ ∃ z, (binOp op T p q).run P w = .ok z w ∧ RV L γ v z := by
  have hgd : ∀ {p q : Value}, (∀ l, p ≠ .agg l) → (p = .nilIface → False) → ∀ i j, (eqGuard op T i j p q).run P w = .ok () w := by
    intro p q h1 h2 i j
    cases op <;> first | rfl | (cases p <;> first | rfl | exact absurd rfl (h1 _) | exact absurd rfl h2 | (cases q <;> rfl))
  unfold binOp2 at h
  split at h
  · rename_i k a k' b
    rw [val_int hx, val_int hy]
    have hx' : ∀ l, Value.int k a ≠ .agg l := fun l h => by cases h
    have hy' : Value.int k a = .nilIface → False := fun h => by cases h
    split at h
    · obtain ⟨h1, h2⟩ := shift_ok (T := T) (k' := k') (.inl rfl) h (P := P) (w := w) (L := L) (γ := γ)
      exact ⟨h1, hgd hx' hy', h2⟩
    · obtain ⟨h1, h2⟩ := shift_ok (T := T) (k' := k') (.inr rfl) h (P := P) (w := w) (L := L) (γ := γ)
      exact ⟨h1, hgd hx' hy', h2⟩
    · split at h
      · rename_i hk
        subst hk
        obtain ⟨h1, h2⟩ := binInt_ok (T := T) h (P := P) (w := w) (L := L) (γ := γ)
        exact ⟨h1, hgd hx' hy', h2⟩
      · cases h
  · rw [val_str hx, val_str hy]
    obtain ⟨h1, h2⟩ := binStr_ok (T := T) h (P := P) (w := w) (L := L) (γ := γ)
    exact ⟨h1, hgd (fun l h => by cases h) (fun h => by cases h), h2⟩
  · rw [val_bool hx, val_bool hy]
    refine ⟨?_, hgd (fun l h => by cases h) (fun h => by cases h), ?_⟩
    · split at h <;> cases h <;> rfl
    · split at h
      · rename_i hT
        cases h
        have hu : P.underlying T = some .bool := (nth_ok hE hT).1
        exact ⟨_, run_eql_bool w T _ _ hu, bool_val⟩
      · rename_i hT
        cases h
        have hu : P.underlying T = some .bool := (nth_ok hE hT).1
        exact ⟨_, run_neq_bool w T _ _ hu, bool_val⟩
      · cases h
  · split at h
    · rename_i t hT
      obtain ⟨⟨s0, rfl⟩, hg, heq⟩ := hE.eqs T t hT
      have hR : RowsOk L γ [] (fun _ => True) := fun r e t xs _ hh => by rcases hh with ⟨_, hh⟩ | hh <;> cases hh
      split at h
      · rename_i a' b' ha hb
        obtain ⟨cs, rfl, kx⟩ := toVal_RV hR (d' := 9) (Nat.le_refl _) (fun _ _ => trivial) hx ha
        obtain ⟨ds, rfl, ky⟩ := toVal_RV hR (d' := 9) (Nat.le_refl _) (fun _ _ => trivial) hy hb
        cases h
        have := heq L _ _ _ _ w kx ky
        refine ⟨rfl, fun i j => run_eqGuard_agg w .eql T i j _ _ hg, _, ?_, bool_val⟩
        show (binOp .eql T (.agg _) (.agg _)).run P w = _
        rw [run_eql_struct]
        have this : (Op.equalIn 10000 T (.agg _) (.agg _)).run P w = _ := this
        rw [this]
        rfl
      · rename_i a' b' ha hb
        obtain ⟨cs, rfl, kx⟩ := toVal_RV hR (d' := 9) (Nat.le_refl _) (fun _ _ => trivial) hx ha
        obtain ⟨ds, rfl, ky⟩ := toVal_RV hR (d' := 9) (Nat.le_refl _) (fun _ _ => trivial) hy hb
        cases h
        have := heq L _ _ _ _ w kx ky
        refine ⟨rfl, fun i j => run_eqGuard_agg w .neq T i j _ _ hg, _, ?_, bool_val⟩
        show (binOp .neq T (.agg _) (.agg _)).run P w = _
        rw [run_neq_struct]
        have this : (Op.equalIn 10000 T (.agg _) (.agg _)).run P w = _ := this
        rw [this]
        rfl
      · cases h
    · cases h
theorem binErr_ok (hE : EnvOk P E) {op : BinOp} {T : TypeId} {x : SV} {p : Value} {L : Lk} {i : Operand} (hx : RV L γ x p) (h : binErr E op T x ans = some (v, u)) :
    u = [] ∧ (eqGuard op T i (.const .nilIface) p .nilIface).run P w = .ok () w ∧ ∃ z, (binOp op T p .nilIface).run P w = .ok z w ∧ RV L γ v z := by
  unfold binErr at h
  split at h
  · rename_i b hT
    obtain ⟨ms, hu⟩ : ∃ ms, P.underlying T = some (.interface ms) := (nth_ok hE hT).1
    have hp : (b = true ∧ p = .nilIface) ∨ (b = false ∧ ∃ T p', p = .iface T p') := by
      cases hx with
      | val hk =>
        rcases hk with ⟨h1, rfl⟩ | ⟨h1, T', p', rfl⟩
        · exact .inl ⟨h1, rfl⟩
        · exact .inr ⟨h1, T', p', rfl⟩
    have heq0 : ∀ d : Nat, (Op.equalIn (d + 1) T p .nilIface).run P w = .ok b w := fun d => by
      rcases hp with ⟨rfl, rfl⟩ | ⟨rfl, T', p', rfl⟩ <;> simp [Op.equalIn, run_underlying hu]
    have heq : (Op.equalIn 10000 T p .nilIface).run P w = .ok b w := heq0 9999
    split at h
    · cases h
      refine ⟨rfl, ?_, .bool b, ?_, bool_val⟩
      · rcases hp with ⟨rfl, rfl⟩ | ⟨rfl, T', p', rfl⟩ <;> simp [eqGuard]
      · rcases hp with ⟨rfl, rfl⟩ | ⟨rfl, T', p', rfl⟩ <;> simp only [binOp, Op.equal, Op.maxDepth, Sem.run_bind, heq, Result.andThen_ok] <;> rfl
    · cases h
      refine ⟨rfl, ?_, .bool (Bool.not b), ?_, bool_val⟩
      · rcases hp with ⟨rfl, rfl⟩ | ⟨rfl, T', p', rfl⟩ <;> simp [eqGuard]
      · rcases hp with ⟨rfl, rfl⟩ | ⟨rfl, T', p', rfl⟩ <;> simp only [binOp, Op.equal, Op.maxDepth, Sem.run_bind, heq, Result.andThen_ok] <;> rfl
    · cases h
  · cases h
theorem op_binOp (H : Ahead P E call w0 X Pr0 sl get γ Pr a w res r0 o vs v u) {op : BinOp} {T T' : TypeId} {i j : Operand} (hop : o.op = .binOp op T i j T') : Done P w0 X Pr0 sl get γ Pr a w r0 o v u := by
  obtain ⟨hE, hI, hk, hfr, hv, hc⟩ := H
  rw [hop] at hv
  obtain ⟨p, q, rfl, hp, hq⟩ := RVs_two hv
  unfold core at hc
  simp only [hop] at hc
  have ho : execOp a.eval o = (do pure (.value (← (do eqGuard op T i j (a.eval i) (a.eval j); binOp op T (a.eval i) (a.eval j))))) := by simp only [execOp, hop]
  split at hc
  · rename_i hj
    obtain ⟨rfl, hg, z, h3, h4⟩ := binErr_ok (w := w) (i := i) hE hp hc
    have hj' : j = .const .nilIface := by
      unfold nilOp at hj
      split at hj
      · rfl
      · cases hj
    subst hj'
    refine owes_pure hI ho ?_ h4
    have he : a.eval (.const .nilIface) = .nilIface := rfl
    rw [he]
    simp only [Sem.run_bind, hg, Result.andThen_ok, h3]
  obtain ⟨rfl, hg, z, h3, h4⟩ := binOp2_ok (w := w) hE hp hq hc
  refine owes_pure hI ho ?_ h4
  have hg := hg i j
  simp only [Sem.run_bind, hg, Result.andThen_ok, h3]
end
end Go.Proofs.YtiligfmembmapaaGreatDoor.Abs
/- New blocks, and blocks that are turned. -/
set_option linter.unusedVariables false
set_option linter.unusedSimpArgs false
set_option linter.unusedSectionVars false
namespace Go.Proofs.YtiligfmembmapaaGreatDoor.Abs
open Go Go.RowKit

/-- A number is given. -/
def give (γ : Nat → Option G) (k : Nat) (g : G) : Nat → Option G := fun s => if s = k then some g else γ s
section
variable {w0 : World} {X : Nat → Prop} {Pr0 : Nat → Nat → Prop} {sl : List SV} {get : Nat → Option Res} {γ : Nat → Option G} {Pr Pr' : Nat → Nat → Prop} {a : Act} {w w' : World} {r0 : Nat}
theorem give_ext (h : γ r0 = none) {g : G} : ∀ r x, γ r = some x → give γ r0 g r = some x := fun r x hr => by
  unfold give
  by_cases hk : r = r0
  · subst hk
    rw [h] at hr
    cases hr
  · rw [if_neg hk]
    exact hr
theorem give_same {g : G} : give γ r0 g r0 = some g := if_pos rfl
theorem give_other {g : G} {r : Nat} (h : r ≠ r0) : give γ r0 g r = γ r := if_neg h
theorem Inv.none_of (hI : Inv w0 X Pr0 sl get γ Pr a w) {r : Nat} (h : γ r = none) : get r = none := by
  cases hg : get r with
  | none => rfl
  | some x =>
    obtain ⟨g, hg⟩ := (hI.res r x hg).γsome
    rw [h] at hg
    cases hg
/-- A row or a variable under a new number. -/
theorem Inv.fresh (hI : Inv w0 X Pr0 sl get γ Pr a w) (h0 : γ r0 = none) (row : Option Nat) (hg : w.grownBy w' row) (g : G) (hgs : ∀ e t v, g = .row e t v → ∃ A n c, v = .slice A n c) (hwf : ∀ b t, g = .box b t → WfB false t = true) (x' : Res)
    (hrow : ∀ b, row = some b → (X b ∨ w0.heap.size ≤ b) ∧ ∀ r x, get r = some x → blk γ r x ≠ some b)
    (hP : ∀ b o, Pr b o → Pr' b o) (hP' : ∀ b o, Pr' b o → Pr b o ∨ blk (give γ r0 g) r0 x' = some b ∧ mayLean x' o)
    (hcell : ∀ b o v, row = some b → Pr b o → w.cell? ⟨b, o, none⟩ = some v → w'.cell? ⟨b, o, none⟩ = some v)
    (hres : ResOk (Ln Pr' w') Pr' (give γ r0 g) w' r0 x') (hblk : ∀ b, blk (give γ r0 g) r0 x' = some b → row = some b ∨ w.heap.size ≤ b)
    (hloose : ∀ b, blk (give γ r0 g) r0 x' = some b → ∀ o, Pr b o → mayLean x' o) : Inv w0 X Pr0 sl (fun s => if s = r0 then some x' else get s) (give γ r0 g) Pr' a w' := by
  refine hI.turn r0 (some x') row hg (give_ext h0) (fun r hr => give_other hr) ?_ (fun b t h => hwf b t (by rw [give_same] at h; simpa using h)) (fun b hb => ⟨(hrow b hb).1, fun r x _ hx => (hrow b hb).2 r x hx⟩) hP ?_ hcell ?_ ?_
  · intro e t v h
    rw [give_same] at h
    exact hgs e t v (by simpa using h)
  · intro b o h
    rcases hP' b o h with h | h
    · exact .inl h
    · exact .inr ⟨x', rfl, h⟩
  · intro x hx
    cases hx
    exact hres
  · intro x b hx hb
    cases hx
    refine ⟨?_, ?_, hloose b hb⟩
    · rcases hblk b hb with h | h
      · exact (hrow b h).1
      · exact .inr (Nat.le_trans hI.size h)
    · intro r y hr hy
      rcases hblk b hb with h | h
      · exact (hrow b h).2 r y hy
      · intro hyb
        have := (hI.res r y hy).lt hyb
        omega
/-- A variable is made. -/
theorem Inv.newBox (hI : Inv w0 X Pr0 sl get γ Pr a w) (h0 : γ r0 = none) {t : Ty} {c : SV} {cs : Array Value} {T : TypeId} (hwf : WfB false t = true) (hc : RT (Ln Pr w) γ t c cs.toList) :
    Inv w0 X Pr0 sl (fun s => if s = r0 then some (.box t c) else get s) (give γ r0 (.box w.heap.size t)) Pr a (w.alloc (.cells cs T)) := by
  refine hI.fresh h0 none (World.grownBy_alloc w _ none) _ (fun e t v h => by cases h) (fun b t h => by cases h; exact hwf) _ (fun b hb => by cases hb) (fun _ _ h => h) (fun b o h => .inl h) (fun b o v hb => by cases hb) ?_ ?_ ?_
  · refine ⟨w.heap.size, cs, T, give_same, heap_alloc_new w _, RT_mono ?_ (give_ext h0) hc⟩
    exact Ln_turn hI.prIn (World.grownBy_alloc w _ none) (fun _ _ h => h) (fun b o v hb => by cases hb)
  · intro b hb
    simp only [blk, give_same, Option.some.injEq] at hb
    exact .inr (by omega)
  · intro b hb o ho
    simp only [blk, give_same, Option.some.injEq] at hb
    have := hI.prIn b o ho
    omega
theorem Els_app {L : Lk} {t : Ty} {xs ys : List t.den} {css dss : List (List Value)} (h : Els L t xs css) (k : Els L t ys dss) : Els L t (xs ++ ys) (css ++ dss) := by
  refine ⟨by rw [List.length_append, List.length_append, h.1, k.1], fun i hi hi' => ?_⟩
  by_cases hx : i < xs.length
  · rw [List.getElem_append_left hx, List.getElem_append_left (by rw [h.1]; exact hx)]
    exact h.2 i hx _
  · rw [List.getElem_append_right (by omega), List.getElem_append_right (by rw [h.1]; omega)]
    have := k.2 (i - xs.length) (by rw [List.length_append] at hi; omega) (by rw [k.1]; rw [List.length_append] at hi; omega)
    simpa only [h.1] using this
theorem Els.flat {L : Lk} {t : Ty} {xs : List t.den} {css : List (List Value)} (h : Els L t xs css) : css.flatten.length = xs.length * t.sz := by
  rw [← h.1]
  have : ∀ (l : List (List Value)), (∀ c ∈ l, c.length = t.sz) → l.flatten.length = l.length * t.sz := by
    intro l
    induction l with
    | nil => intro _; simp
    | cons c l ih =>
      intro hl
      rw [List.flatten_cons, List.length_append, List.length_cons, Nat.succ_mul, ih (fun d hd => hl d (List.mem_cons_of_mem _ hd)), hl c (by simp)]
      omega
  exact this css h.lens
/-- A row in a block of its own is made. -/
theorem Inv.newRow (hI : Inv w0 X Pr0 sl get γ Pr a w) (h0 : γ r0 = none) {e : TypeId} {t : Ty} {xs : List t.den} {css : List (List Value)} {cs : Array Value} (hc : Els (Ln Pr w) t xs css) (hf : css.flatten = cs.toList) (hm : xs.length ≤ maxLen) :
    Inv w0 X Pr0 sl (fun s => if s = r0 then some (.row e t xs false) else get s) (give γ r0 (.row e t (.slice (some ⟨w.heap.size, 0, none⟩) xs.length xs.length))) Pr a (w.alloc (.cells cs e)) := by
  refine hI.fresh h0 none (World.grownBy_alloc w _ none) _ (fun e t v h => by cases h; exact ⟨_, _, _, rfl⟩) (fun b t h => by cases h) _ (fun b hb => by cases hb) (fun _ _ h => h) (fun b o h => .inl h) (fun b o v hb => by cases hb) ?_ ?_ ?_
  · refine ⟨_, css, give_same, Els_mono (Ln_turn hI.prIn (World.grownBy_alloc w _ none) (fun _ _ h => h) (fun b o v hb => by cases hb)) hc, ?_, fun h => by cases h⟩
    rw [hf]
    refine World.ownsRow_lit w cs xs.length (Nat.zero_le _) hm ?_
    rw [← Array.length_toList, ← hf, hc.flat]
  · intro b hb
    simp only [blk, give_same, Value.ownBlock, Option.some.injEq] at hb
    exact .inr (by omega)
  · intro b hb o ho
    simp only [blk, give_same, Value.ownBlock, Option.some.injEq] at hb
    have := hI.prIn b o ho
    omega
/-- A row of nothing. -/
theorem Inv.nilRow (hI : Inv w0 X Pr0 sl get γ Pr a w) (h0 : γ r0 = none) {e : TypeId} {t : Ty} :
    Inv w0 X Pr0 sl (fun s => if s = r0 then some (.row e t [] false) else get s) (give γ r0 (.row e t (.slice none 0 0))) Pr a w := by
  refine hI.fresh h0 none ⟨rfl, rfl, rfl, Nat.le_refl _, fun _ _ _ => rfl⟩ _ (fun e t v h => by cases h; exact ⟨_, _, _, rfl⟩) (fun b t h => by cases h) _ (fun b hb => by cases hb) (fun _ _ h => h) (fun b o h => .inl h) (fun b o v hb => by cases hb) ?_ ?_ ?_
  · exact ⟨_, [], give_same, ⟨rfl, fun i hi => by simp at hi⟩, World.ownsRow_nil w 0 e t.sz, fun h => by cases h⟩
  · intro b hb
    simp [blk, give_same, Value.ownBlock] at hb
  · intro b hb
    simp [blk, give_same, Value.ownBlock] at hb
theorem RT_one (hgs : ∀ r e t v, γ r = some (.row e t v) → ∃ A n c, v = .slice A n c) {L : Lk} {t : Ty} {v : SV} {cs : List Value} (h : RT L γ t v cs) : ∀ x ∈ cs, x.oneCell' = true := by
  induction h using RT.rec (motive_2 := fun t _ cs _ => ∀ x ∈ cs, x.oneCell' = true) with
  | val h => exact RK_one h
  | nilS =>
    intro x hx
    rw [List.mem_singleton.1 hx]
    rfl
  | row h =>
    intro x hx
    rw [List.mem_singleton.1 hx]
    obtain ⟨A, n, c, rfl⟩ := hgs _ _ _ _ h
    rfl
  | strct h ih => exact ih
  | nil => rename_i x hx; simp at hx
  | cons h k ih1 ih2 =>
    rename_i x hx
    rcases List.mem_append.1 hx with hx | hx
    · exact ih1 x hx
    · exact ih2 x hx
theorem RT_cells (hgs : ∀ r e t v, γ r = some (.row e t v) → ∃ A n c, v = .slice A n c) {L : Lk} {t : Ty} {v : SV} {cs : List Value} (h : RT L γ t v cs) (ht : t.sz = 1 ∨ ∃ u, t = .agg u) : (mk t cs).cells = cs.toArray := by
  rcases ht with ht | ⟨u, rfl⟩
  · obtain ⟨x, rfl⟩ := List.length_eq_one_iff.1 ((RT_len h).trans ht)
    have h1 := RT_one hgs h x (by simp)
    cases t <;> first | rfl | (show x.cells = #[x]; cases x <;> first | rfl | cases h1)
  · rfl
end
/-- A row goes on under a new number. -/
theorem Inv.rebind {w0 : World} {X : Nat → Prop} {Pr0 : Nat → Nat → Prop} {sl : List SV} {get : Nat → Option Res} {γ : Nat → Option G} {Pr : Nat → Nat → Prop} {a : Act} {w w' : World} {r r0 : Nat} (hI : Inv w0 X Pr0 sl get γ Pr a w)
    {e : TypeId} {t : Ty} {xs xs' : List t.den} {fr : Bool} {css' : List (List Value)} {v v' : Value} (hr : get r = some (.row e t xs fr)) (h0 : γ r0 = none) (hv : γ r = some (.row e t v)) (hg : w.grownBy w' v.ownBlock)
    (hown : w'.ownsRow 0 e t.sz v' xs'.length css'.flatten) (hels : Els (Ln Pr w) t xs' css') (hcells : fr = true → ∀ b, v.ownBlock = some b → ∀ o, o < xs.length * t.sz → w'.cell? ⟨b, o, none⟩ = w.cell? ⟨b, o, none⟩)
    (hgs : ∃ A n c, v' = .slice A n c) (hwh : ∀ b, v'.ownBlock = some b → v.ownBlock = some b ∨ w.heap.size ≤ b) (hlen : fr = true → xs.length ≤ xs'.length) :
    ∃ Pr', Inv w0 X Pr0 sl (fun s => if s = r0 then some (.row e t xs' fr) else if s = r then (oldOf e t xs fr) else get s) (give γ r0 (.row e t v')) Pr' a w' ∧ ∀ b o, Pr b o → Pr' b o := by
  have hbr : ∀ b, v.ownBlock = some b → blk γ r (.row e t xs fr) = some b := fun b hb => by simp only [blk, hv, hb]
  have hI1 : Inv w0 X Pr0 sl (fun s => if s = r then (oldOf e t xs fr) else get s) γ Pr a w := by
    refine hI.turn r _ none ⟨rfl, rfl, rfl, Nat.le_refl _, fun _ _ _ => rfl⟩ (fun _ _ h => h) (fun _ _ => rfl) (fun e t v h => hI.gs r e t v h) (fun b t h => hI.wfs r b t h) (fun b hb => by cases hb) (fun b o h => h) (fun b o h => .inl h) (fun b o v hb => by cases hb) ?_ ?_
    · intro x hx
      cases fr with
      | false => cases hx
      | true =>
        cases hx
        have hres := hI.res r _ hr
        exact row_RK hres (fun _ _ h => h) (fun b hb o ho => by
          obtain ⟨v1, css, h1, h2, h3, h4⟩ := hres
          refine h4 rfl b ?_ o ho
          simpa [blk, h1] using hb)
    · intro x b hx hb
      cases fr with
      | false => cases hx
      | true =>
        cases hx
        cases hb
  have hne : r ≠ r0 := fun h => by rw [← h, hv] at h0; cases h0
  have hother : ∀ b, v.ownBlock = some b → (X b ∨ w0.heap.size ≤ b) ∧ ∀ r' x, r' ≠ r0 → (if r' = r then (oldOf e t xs fr) else get r') = some x → blk γ r' x ≠ some b := by
    intro b hb
    refine ⟨hI.where_ r _ b hr (hbr b hb), fun r' x _ hx => ?_⟩
    by_cases hrr : r' = r
    · rw [if_pos hrr] at hx
      cases fr with
      | false => cases hx
      | true =>
        cases hx
        intro h
        cases h
    · rw [if_neg hrr] at hx
      exact hI.apart r r' _ x b hr hx (fun e => hrr e.symm) (hbr b hb)
  have hbl : ∀ b, blk (give γ r0 (.row e t v')) r0 (.row e t xs' fr) = some b → v'.ownBlock = some b := fun b hb => by simpa [blk, give_same] using hb
  refine ⟨fun b o => Pr b o ∨ (fr = true ∧ v'.ownBlock = some b ∧ o < xs'.length * t.sz), ?_, fun b o h => .inl h⟩
  have hcell : ∀ b o u, v.ownBlock = some b → Pr b o → w.cell? ⟨b, o, none⟩ = some u → w'.cell? ⟨b, o, none⟩ = some u := by
    intro b o u hb ho hu
    have hl := hI.loose r _ b hr (hbr b hb) o ho
    cases fr with
    | false => exact hl.elim
    | true =>
      rw [hcells rfl b hb o hl]
      exact hu
  refine hI1.turn r0 _ v.ownBlock hg (give_ext h0) (fun s hs => give_other hs) ?_ (fun b t h => by rw [give_same] at h; cases h) hother (fun b o h => .inl h) ?_ hcell ?_ ?_
  · intro e' t' v1 h
    rw [give_same] at h
    cases h
    exact hgs
  · intro b o h
    rcases h with h | ⟨h1, h2, h3⟩
    · exact .inl h
    · refine .inr ⟨_, rfl, by simp [blk, give_same, h2], ?_⟩
      subst h1
      exact h3
  · intro x hx
    cases hx
    refine ⟨v', css', give_same, Els_mono ?_ hels, hown, fun h b hb o ho => .inr ⟨h, hb, ho⟩⟩
    exact Ln_turn hI.prIn hg (fun b o h => .inl h) hcell
  · intro x b hx hb
    cases hx
    have hb' := hbl b hb
    rcases hwh b hb' with h | h
    · obtain ⟨h1, h2⟩ := hother b h
      refine ⟨h1, h2, fun o ho => ?_⟩
      have hl := hI.loose r _ b hr (hbr b h) o ho
      cases fr with
      | false => exact hl.elim
      | true => exact Nat.lt_of_lt_of_le hl (Nat.mul_le_mul_right _ (hlen rfl))
    · refine ⟨.inr (Nat.le_trans hI.size h), fun r' y _ hy hyb => ?_, fun o ho => ?_⟩
      · have := (hI1.res r' y hy).lt hyb
        omega
      · have := hI.prIn b o ho
        omega
section
variable {P : Program} {E : Env} {call : (I : FnI) → List SV → Tab → Option (I.sh.den × I.bx.den)} {w0 : World} {X : Nat → Prop} {Pr0 : Nat → Nat → Prop} {sl : List SV} {get : Nat → Option Res} {γ : Nat → Option G} {Pr : Nat → Nat → Prop}
  {a : Act} {w : World} {res : Tab} {r0 : Nat} {o : Oper} {vs : List SV} {v : SV} {u : Up}
theorem give_far {g : G} : ∀ r, ¬ (r0 ≤ r ∧ r < r0 + 64) → give γ r0 g r = γ r := fun r h => give_other (fun e => h (by omega))
theorem ground_le : ∀ (t : Ty), (∀ (v : SV) (n : Nat), n ≤ (ground t v n).2.2) ∧ (∀ (l : List SV) (n : Nat), n ≤ (ground.go t l n).2.2)
  | .int _ => ⟨fun v n => Nat.le_refl _, fun l n => Nat.le_refl _⟩
  | .bool => ⟨fun v n => Nat.le_refl _, fun l n => Nat.le_refl _⟩
  | .str => ⟨fun v n => Nat.le_refl _, fun l n => Nat.le_refl _⟩
  | .err => ⟨fun v n => Nat.le_refl _, fun l n => Nat.le_refl _⟩
  | .unit => ⟨fun v n => Nat.le_refl _, fun l n => Nat.le_refl _⟩
  | .slice _ _ => ⟨fun v n => by cases v <;> first | exact Nat.le_refl _ | exact Nat.le_succ _, fun l n => Nat.le_refl _⟩
  | .agg t => ⟨fun v n => by
      cases v <;> first | exact Nat.le_refl _ | skip
      rename_i l
      exact (ground_le t).2 l n, fun l n => Nat.le_refl _⟩
  | .pair x y => ⟨fun v n => Nat.le_refl _, fun l n => by
      cases l with
      | nil => exact Nat.le_refl _
      | cons v l => exact Nat.le_trans ((ground_le x).1 v n) ((ground_le y).2 l (ground x v n).2.2)⟩
theorem RT_RV' {L : Lk} {γ : Nat → Option G} {t : Ty} {l : List SV} {cs : List Value} (h : RT L γ t (.strct l) cs) : RV L γ (.strct l) (.agg cs.toArray) := by
  cases h with
  | strct h => exact .strct h
theorem ground_ok : ∀ (t : Ty), (∀ (v : SV) (n : Nat) (t0 : Ty) (cs : List Value) (get : Nat → Option Res) (γ : Nat → Option G), Inv w0 X Pr0 sl get γ Pr a w → (∀ r, n ≤ r → r < (ground t v n).2.2 → γ r = none) → RT (Ln Pr w) γ t0 v cs →
      ∃ γ' t', Inv w0 X Pr0 sl (updG get (ground t v n).2.1) γ' Pr a w ∧ RT (Ln Pr w) γ' t' (ground t v n).1 cs ∧ (∀ r, ¬ (n ≤ r ∧ r < (ground t v n).2.2) → γ' r = γ r) ∧ (t0 = t → t' = t)) ∧
    (∀ (l : List SV) (n : Nat) (t0 : Ty) (cs : List Value) (get : Nat → Option Res) (γ : Nat → Option G), Inv w0 X Pr0 sl get γ Pr a w → (∀ r, n ≤ r → r < (ground.go t l n).2.2 → γ r = none) → RTs (Ln Pr w) γ t0 l cs →
      ∃ γ' t', Inv w0 X Pr0 sl (updG get (ground.go t l n).2.1) γ' Pr a w ∧ RTs (Ln Pr w) γ' t' (ground.go t l n).1 cs ∧ (∀ r, ¬ (n ≤ r ∧ r < (ground.go t l n).2.2) → γ' r = γ r) ∧ (t0 = t → t' = t))
  | .int _ => ⟨fun v n t0 cs get γ hI hf h => ⟨γ, t0, hI, h, fun _ _ => rfl, id⟩, fun l n t0 cs get γ hI hf h => ⟨γ, t0, hI, h, fun _ _ => rfl, id⟩⟩
  | .bool => ⟨fun v n t0 cs get γ hI hf h => ⟨γ, t0, hI, h, fun _ _ => rfl, id⟩, fun l n t0 cs get γ hI hf h => ⟨γ, t0, hI, h, fun _ _ => rfl, id⟩⟩
  | .str => ⟨fun v n t0 cs get γ hI hf h => ⟨γ, t0, hI, h, fun _ _ => rfl, id⟩, fun l n t0 cs get γ hI hf h => ⟨γ, t0, hI, h, fun _ _ => rfl, id⟩⟩
  | .err => ⟨fun v n t0 cs get γ hI hf h => ⟨γ, t0, hI, h, fun _ _ => rfl, id⟩, fun l n t0 cs get γ hI hf h => ⟨γ, t0, hI, h, fun _ _ => rfl, id⟩⟩
  | .unit => ⟨fun v n t0 cs get γ hI hf h => ⟨γ, t0, hI, h, fun _ _ => rfl, id⟩, fun l n t0 cs get γ hI hf h => ⟨γ, t0, hI, h, fun _ _ => rfl, id⟩⟩
  | .slice e t => ⟨fun v n t0 cs get γ hI hf h => by
      cases h with
      | nilS =>
        have h0 : γ n = none := hf n (Nat.le_refl _) (Nat.lt_succ_self _)
        refine ⟨give γ n (.row e t (.slice none 0 0)), .slice e t, hI.nilRow h0, .row give_same, fun r hr => ?_, fun _ => rfl⟩
        exact if_neg (fun e => hr (by subst e; exact ⟨Nat.le_refl _, Nat.lt_succ_self _⟩))
      | val h => exact ⟨γ, t0, hI, .val h, fun _ _ => rfl, id⟩
      | row h => exact ⟨γ, _, hI, .row h, fun _ _ => rfl, id⟩
      | strct h => exact ⟨γ, _, hI, .strct h, fun _ _ => rfl, id⟩, fun l n t0 cs get γ hI hf h => ⟨γ, t0, hI, h, fun _ _ => rfl, id⟩⟩
  | .agg t => ⟨fun v n t0 cs get γ hI hf h => by
      cases h with
      | strct h =>
        obtain ⟨γ', t', h1, h2, h3, h4⟩ := (ground_ok t).2 _ n _ cs get γ hI hf h
        exact ⟨γ', .agg t', h1, .strct h2, h3, fun e => by cases e; rw [h4 rfl]⟩
      | nilS =>
        rename_i e0 t1
        exact ⟨γ, .slice e0 t1, hI, .nilS, fun _ _ => rfl, id⟩
      | val h => exact ⟨γ, t0, hI, .val h, fun _ _ => rfl, id⟩
      | row h => exact ⟨γ, _, hI, .row h, fun _ _ => rfl, id⟩, fun l n t0 cs get γ hI hf h => ⟨γ, t0, hI, h, fun _ _ => rfl, id⟩⟩
  | .pair x y => ⟨fun v n t0 cs get γ hI hf h => ⟨γ, t0, hI, h, fun _ _ => rfl, id⟩, fun l n t0 cs get γ hI hf h => by
      cases h with
      | nil => exact ⟨γ, _, hI, .nil, fun _ _ => rfl, id⟩
      | cons hv hk =>
        rename_i ta tb v l c d
        have l1 := (ground_le x).1 v n
        have l2 := (ground_le y).2 l (ground x v n).2.2
        have hf' : ∀ r, n ≤ r → r < (ground.go y l (ground x v n).2.2).2.2 → γ r = none := hf
        obtain ⟨γ1, t1, h1, h2, h3, q1⟩ := (ground_ok x).1 v n ta c get γ hI (fun r hr1 hr2 => hf' r hr1 (by omega)) hv
        have hext : ∀ r g, γ r = some g → γ1 r = some g := fun r g hg => by
          rw [h3 r (fun hr => by rw [hf' r hr.1 (by omega)] at hg; cases hg)]
          exact hg
        obtain ⟨γ2, t2, h4, h5, h6, q2⟩ := (ground_ok y).2 l (ground x v n).2.2 tb d _ γ1 h1 (fun r hr1 hr2 => by
          rw [h3 r (fun hr => by omega)]
          exact hf' r (by omega) hr2) (RTs_mono (fun _ _ _ h => h) hext hk)
        have hext2 : ∀ r g, γ1 r = some g → γ2 r = some g := fun r g hg => by
          by_cases hr : (ground x v n).2.2 ≤ r ∧ r < (ground.go y l (ground x v n).2.2).2.2
          · rw [h3 r (fun hr' => by omega), hf' r (by omega) hr.2] at hg
            cases hg
          · rw [h6 r hr]
            exact hg
        refine ⟨γ2, .pair t1 t2, ?_, .cons (RT_mono (fun _ _ _ h => h) hext2 h2) h5, fun r hr => ?_, fun e => by cases e; rw [q1 rfl, q2 rfl]⟩
        · show Inv w0 X Pr0 sl (updG get ((ground x v n).2.1 ++ (ground.go y l (ground x v n).2.2).2.1)) γ2 Pr a w
          rw [updG_append]
          exact h4
        · have hr' : ¬ (n ≤ r ∧ r < (ground.go y l (ground x v n).2.2).2.2) := hr
          rw [h6 r (fun h => hr' ⟨by omega, h.2⟩), h3 r (fun h => hr' ⟨h.1, by omega⟩)]⟩
theorem ground_keys : ∀ (t : Ty), (∀ (v : SV) (n : Nat), ∀ p ∈ (ground t v n).2.1, n ≤ p.1 ∧ p.1 < (ground t v n).2.2) ∧ (∀ (l : List SV) (n : Nat), ∀ p ∈ (ground.go t l n).2.1, n ≤ p.1 ∧ p.1 < (ground.go t l n).2.2)
  | .int _ => ⟨fun v n p hp => by simp [ground] at hp, fun l n p hp => by simp [ground.go] at hp⟩
  | .bool => ⟨fun v n p hp => by simp [ground] at hp, fun l n p hp => by simp [ground.go] at hp⟩
  | .str => ⟨fun v n p hp => by simp [ground] at hp, fun l n p hp => by simp [ground.go] at hp⟩
  | .err => ⟨fun v n p hp => by simp [ground] at hp, fun l n p hp => by simp [ground.go] at hp⟩
  | .unit => ⟨fun v n p hp => by simp [ground] at hp, fun l n p hp => by simp [ground.go] at hp⟩
  | .slice _ _ => ⟨fun v n p hp => by
      cases v <;> simp only [ground, List.not_mem_nil, List.mem_singleton] at hp ⊢
      subst hp
      exact ⟨Nat.le_refl _, Nat.lt_succ_self _⟩, fun l n p hp => by simp [ground.go] at hp⟩
  | .agg t => ⟨fun v n p hp => by
      cases v <;> first | (simp only [ground, List.not_mem_nil] at hp; done) | skip
      exact (ground_keys t).2 _ n p hp, fun l n p hp => by simp [ground.go] at hp⟩
  | .pair x y => ⟨fun v n p hp => by simp [ground] at hp, fun l n p hp => by
      cases l with
      | nil => simp [ground.go] at hp
      | cons v l =>
        have hp' : p ∈ (ground x v n).2.1 ++ (ground.go y l (ground x v n).2.2).2.1 := hp
        have l1 := (ground_le x).1 v n
        have l2 := (ground_le y).2 l (ground x v n).2.2
        show n ≤ p.1 ∧ p.1 < (ground.go y l (ground x v n).2.2).2.2
        rcases List.mem_append.1 hp' with hp | hp
        · have := (ground_keys x).1 v n p hp
          omega
        · have := (ground_keys y).2 l _ p hp
          omega⟩
theorem updG_not : ∀ {u : Up} {get : Nat → Option Res} {r : Nat}, (∀ p ∈ u, p.1 ≠ r) → updG get u r = get r
  | [], _, _, _ => rfl
  | (k, x) :: u, get, r, h => by
    show updG (fun s => if s = k then x else get s) u r = get r
    rw [updG_not (fun p hp => h p (List.mem_cons_of_mem _ hp))]
    exact if_neg (fun e => h (k, x) (by simp) e.symm)
theorem offP_nil (t : Ty) : offP t [] = some (0, t) := by cases t <;> rfl
theorem op_alloc (H : Ahead P E call w0 X Pr0 sl get γ Pr a w res r0 o vs v u) {T : TypeId} (hop : o.op = .alloc T) : Done P w0 X Pr0 sl get γ Pr a w r0 o v u := by
  obtain ⟨hE, hI, hk, hfr, hv, hc⟩ := H
  unfold core at hc
  simp only [hop] at hc
  have hc' : (match nth E.ty T with
    | some t => match ground t (dfltSV t) (r0 + 1) with
      | (c, u, m) => match Nat.ble m (r0 + 64) with | true => ans (.ptr r0 t []) (u ++ [(r0, some (.box t c))]) | false => none
    | none => none) = some (v, u) := by
    rcases vs with _ | ⟨v1, _ | ⟨v2, _ | ⟨v3, vs⟩⟩⟩ <;> exact hc
  split at hc'
  · rename_i t hT
    split at hc'
    rename_i c u' m hgr
    split at hc'
    · rename_i hm
      cases hc'
      have hm := Nat.le_of_ble_eq_true hm
      have e1 : (ground t (dfltSV t) (r0 + 1)).1 = c := by rw [hgr]
      have e2 : (ground t (dfltSV t) (r0 + 1)).2.1 = u' := by rw [hgr]
      have e3 : (ground t (dfltSV t) (r0 + 1)).2.2 = m := by rw [hgr]
      obtain ⟨i, hi, hs, z, hz, hzc⟩ := (nth_ok hE hT).2.info
      obtain ⟨γ', t', hI', hrt, hγ, hty⟩ := (ground_ok (w0 := w0) (X := X) (Pr0 := Pr0) (sl := sl) (Pr := Pr) (a := a) (w := w) t).1 (dfltSV t) (r0 + 1) t (zc t) get γ hI (fun r h1 h2 => hfr r (by omega) (by omega)) ((dflt_ok t).1 (nth_ok hE hT).2.wf)
      have := hty rfl
      subst this
      rw [e1] at hrt
      rw [e2] at hI'
      have h0 : γ' r0 = none := by
        rw [hγ r0 (fun h => by omega)]
        exact hfr r0 (Nat.le_refl _) (by omega)
      have hbox := hI'.newBox h0 (c := c) (t := t') (cs := z.cells) (T := T) (nth_ok hE hT).2.wf (by rw [hzc]; exact hrt)
      refine owes_new (u := .pointer (some ⟨w.heap.size, 0, none⟩)) (get' := updG get (u' ++ [(r0, some (.box t' c))])) (by rw [updG_append]; exact hbox) ?_ (.ptr give_same (offP_nil t')) (fun r hr => (give_far r hr).trans (hγ r (fun h => hr ⟨by omega, by omega⟩)))
      simp only [execOp, hop, Instr.alloc, zeroValue, typeInfo, Sem.run_bind, run_program, hi, Sem.run_pure, Result.andThen_ok, hz, newVar, newRow, run_newObj_alloc]
    · cases hc'
  · cases hc'
theorem op_box (H : Ahead P E call w0 X Pr0 sl get γ Pr a w res r0 o vs v u) {T : TypeId} {i : Operand} (hop : o.op = .box T i) : Done P w0 X Pr0 sl get γ Pr a w r0 o v u := by
  obtain ⟨hE, hI, hk, hfr, hv, hc⟩ := H
  rw [hop] at hv
  obtain ⟨p, rfl, hp⟩ := RVs_one hv
  unfold core at hc
  simp only [hop] at hc
  split at hc
  · rename_i t hT
    split at hc
    · rename_i hf
      generalize hgr : ground t (spread p) (r0 + 1) = gg at hc
      obtain ⟨c, u', m⟩ := gg
      simp only at hc
      split at hc
      · rename_i hm
        cases hc
        have hm := Nat.le_of_ble_eq_true hm
        have e1 : (ground t (spread p) (r0 + 1)).1 = c := by rw [hgr]
        have e2 : (ground t (spread p) (r0 + 1)).2.1 = u' := by rw [hgr]
        have e3 : (ground t (spread p) (r0 + 1)).2.2 = m := by rw [hgr]
        obtain ⟨cs, hx, hrt⟩ := fits_RV (hI.tys hk) hp hf
        have hwf := (nth_ok hE hT).2.wf
        have hcells := RT_cells hI.gs hrt (nth_ok hE hT).2.one
        have hsp : RT (Ln Pr w) γ t (spread p) cs := spread_ok hrt (fun u hu => by subst hu; exact Wf_flds hwf)
        obtain ⟨γ', t', hI', hrt', hγ, hty⟩ := (ground_ok (w0 := w0) (X := X) (Pr0 := Pr0) (sl := sl) (Pr := Pr) (a := a) (w := w) t).1 (spread p) (r0 + 1) t cs get γ hI (fun r h1 h2 => hfr r (by omega) (by omega)) hsp
        have := hty rfl
        subst this
        rw [e1] at hrt'
        rw [e2] at hI'
        have h0 : γ' r0 = none := by
          rw [hγ r0 (fun h => by omega)]
          exact hfr r0 (Nat.le_refl _) (by omega)
        have hbox := hI'.newBox h0 (c := c) (t := t') (cs := cs.toArray) (T := T) hwf (by simpa using hrt')
        refine owes_new (u := .pointer (some ⟨w.heap.size, 0, none⟩)) (get' := updG get (u' ++ [(r0, some (.box t' c))])) (by rw [updG_append]; exact hbox) ?_ (.ptr give_same (offP_nil t')) (fun r hr => (give_far r hr).trans (hγ r (fun h => hr ⟨by omega, by omega⟩)))
        simp only [execOp, hop, Instr.box, hx, Sem.run_bind, Sem.run_pure, Result.andThen_ok, newVar, newRow, run_newObj_alloc, hcells]
      · cases hc
    · cases hc
  · cases hc
end
end Go.Proofs.YtiligfmembmapaaGreatDoor.Abs
/- Moves, records, cuts, lengths. -/
set_option linter.unusedVariables false
set_option linter.unusedSimpArgs false
set_option linter.unusedSectionVars false
namespace Go.Proofs.YtiligfmembmapaaGreatDoor.Abs
open Go Go.RowKit

section
variable {P : Program} {E : Env} {call : (I : FnI) → List SV → Tab → Option (I.sh.den × I.bx.den)} {w0 : World} {X : Nat → Prop} {Pr0 : Nat → Nat → Prop} {sl : List SV} {get : Nat → Option Res} {γ : Nat → Option G} {Pr : Nat → Nat → Prop}
  {a : Act} {w : World} {res : Tab} {r0 : Nat} {o : Oper} {vs : List SV} {v : SV} {u : Up}
/-- Two lists, place by place. -/
inductive Alike {α β : Type} (R : α → β → Prop) : List α → List β → Prop
  | nil : Alike R [] []
  | cons {x : α} {y : β} {l : List α} {m : List β} (h : R x y) (k : Alike R l m) : Alike R (x :: l) (y :: m)
/-! ### Moves -/
theorem op_moves (H : Ahead P E call w0 X Pr0 sl get γ Pr a w res r0 o vs v u) {i : Operand} (hop : o.op = .move i ∨ o.op = .assign i) : Done P w0 X Pr0 sl get γ Pr a w r0 o v u := by
  obtain ⟨hE, hI, hk, hfr, hv, hc⟩ := H
  have hv' : RVs (Ln Pr w) γ vs [a.eval i] := by
    rcases hop with hop | hop <;> (rw [hop] at hv; exact hv)
  obtain ⟨p, rfl, hp⟩ := RVs_one hv'
  have ho : (execOp a.eval o).run P w = .ok (.value (a.eval i)) w := by
    rcases hop with hop | hop <;> simp only [execOp, hop, Sem.run_pure]
  have hc' : (match (generalizing := false) p, nth E.ty o.type with
      | .nilS, some (.slice e t) => ans (.row r0) [(r0, some (.row e t [] false))]
      | .strct l, some (.agg t) => match ground (.agg t) (.strct l) r0 with
        | (v', u, m) => match Nat.ble m (r0 + 64) with | true => ans v' u | false => none
      | _, _ => ans p []) = some (v, u) := by
    unfold core at hc
    rcases hop with hop | hop <;> (simp only [hop] at hc; exact hc)
  split at hc'
  · cases hc'
    have h0 : γ r0 = none := hfr r0 (Nat.le_refl _) (by omega)
    generalize hx : a.eval i = x at *
    cases hp with
    | nilS => exact owes_new (hI.nilRow h0) ho (.row give_same) give_far
  · rename_i l t hT
    split at hc'
    rename_i v' u' m hgr
    split at hc'
    · rename_i hm
      cases hc'
      have hm := Nat.le_of_ble_eq_true hm
      generalize hx : a.eval i = x at *
      cases hp with
      | strct hl =>
        have e1 : (ground (.agg t) (.strct l) r0).1 = v := by rw [hgr]
        have e2 : (ground (.agg t) (.strct l) r0).2.1 = u := by rw [hgr]
        have e3 : (ground (.agg t) (.strct l) r0).2.2 = m := by rw [hgr]
        obtain ⟨γ', t', hI', hrt, hγ, _⟩ := (ground_ok (.agg t)).1 (.strct l) r0 _ _ get γ hI (fun r h1 h2 => hfr r h1 (by omega)) (.strct hl)
        rw [e2] at hI'
        refine owes_new hI' ho ?_ (fun r hr => hγ r (fun h => hr ⟨h.1, by omega⟩))
        rw [← e1]
        exact RT_RV' hrt
    · cases hc'
  · cases hc'
    exact owes_run hI ho hp
/-! ### Records -/
theorem fill_ok (hgs : ∀ r e t v, γ r = some (.row e t v) → ∃ A n c, v = .slice A n c) {L : Lk} (hr : RowTy γ res) {fs : List Field} {t : Ty} (hF : FOk P fs t 0) (ht : WfB true t = true) {place : Nat → Option (Nat × Nat)}
    (hpl : ∀ f fl s o, fs[f]? = some fl → offF t f = some (o, s) → place f = some (o, s.sz)) :
    ∀ (ps : List (Nat × SV)) (qs : List (Nat × Value)) (l l' : List SV) (cs : Array Value), Alike (fun p q => p.1 = q.1 ∧ RV L γ p.2 q.2) ps qs → RTs L γ t l cs.toList → buildFields res (fieldTys t) ps l = some l' →
      ∃ cs', Instr.fill place cs qs = some cs' ∧ RTs L γ t l' cs'.toList
  | [], [], l, l', cs, _, hl, h => by
    cases h
    exact ⟨cs, rfl, hl⟩
  | (f, v) :: ps, (g, u) :: qs, l, l', cs, .cons hpq hps, hl, h => by
    obtain ⟨rfl, hv⟩ := hpq
    simp only [buildFields] at h
    split at h
    · rename_i s hs
      split at h
      · rename_i hf
        obtain ⟨c, rfl, hc⟩ := fits_RV hr hv hf
        have hoff : ∀ (t : Ty) (f : Nat) (s : Ty), (fieldTys t)[f]? = some s → ∃ o, offF t f = some (o, s) := by
          intro t
          induction t with
          | pair a b _ ih =>
            intro f s hs
            cases f with
            | zero =>
              simp [fieldTys] at hs
              exact ⟨0, by simp [offF, hs]⟩
            | succ f =>
              obtain ⟨o, ho⟩ := ih f s (by simpa [fieldTys] using hs)
              exact ⟨a.sz + o, by simp [offF, ho]⟩
          | _ => intro f s hs; simp [fieldTys] at hs
        obtain ⟨o, ho⟩ := hoff t f s hs
        obtain ⟨fl, hfl, _, _, hi⟩ := FOk_get hF ho
        have hone : s.sz = 1 ∨ ∃ u, s = .agg u := hi.one
        have hcells := RT_cells hgs hc hone
        have hlen : c.length = s.sz := RT_len hc
        have hadd := offF_add ho
        have hcs : cs.size = t.sz := by
          rw [← Array.length_toList]
          exact RTs_len hl
        have hput := RTs_put hl ho hc
        have hfold : ((mk s c).cells.zipIdx.foldl (fun cs (c, j) => cs.setIfInBounds (o + j) c) cs) = (splice cs.toList o c).toArray := by
          rw [hcells]
          exact fold_splice c cs o (by omega)
        obtain ⟨cs', h1, h2⟩ := fill_ok hgs hr hF ht hpl ps qs _ l' (splice cs.toList o c).toArray hps (by simpa using hput) h
        refine ⟨cs', ?_, h2⟩
        rw [Instr.fill, hpl f fl s o hfl ho]
        simp only
        rw [if_neg (by rw [hcells]; simp [hlen]; omega)]
        rw [hfold]
        exact h1
      · cases h
    · cases h
where
  fold_splice (c : List Value) (cs : Array Value) (o : Nat) (h : o + c.length ≤ cs.size) : (c.toArray.zipIdx.foldl (fun cs (c, j) => cs.setIfInBounds (o + j) c) cs) = (splice cs.toList o c).toArray := by
    have key : ∀ (c : List Value) (k : Nat) (cs : Array Value), o + k + c.length ≤ cs.size → ((c.zipIdx k).foldl (fun (cs : Array Value) (p : Value × Nat) => cs.setIfInBounds (o + p.2) p.1) cs) = (splice cs.toList (o + k) c).toArray := by
      intro c
      induction c with
      | nil =>
        intro k cs _
        simp [splice]
      | cons x c ih =>
        intro k cs h
        rw [List.length_cons] at h
        rw [List.zipIdx_cons, List.foldl_cons, ih (k + 1) _ (by simp; omega)]
        apply Array.toList_inj.1
        apply List.ext_getElem?
        intro j
        rw [splice_get (by simp; omega), splice_get (by simp; omega)]
        simp only [Array.toList_setIfInBounds, List.getElem?_set, List.length_cons, Array.length_toList]
        by_cases h1 : o + (k + 1) ≤ j ∧ j < o + (k + 1) + c.length
        · rw [if_pos h1, if_pos (by omega)]
          rw [show j - (o + k) = (j - (o + (k + 1))) + 1 by omega, List.getElem?_cons_succ]
        · rw [if_neg h1]
          by_cases h2 : o + k = j
          · subst h2
            rw [if_pos rfl, if_pos (by omega), if_pos (by omega)]
            simp
          · rw [if_neg h2, if_neg (by omega)]
    have := key c 0 cs (by omega)
    rw [Nat.add_zero] at this
    rw [← this, ← Array.foldl_toList]
    congr 1
    simp
theorem forall2_zip {L : Lk} : ∀ {ks : List Nat} {vs : List SV} {us : List Value}, RVs L γ vs us → Alike (fun (p : Nat × SV) (q : Nat × Value) => p.1 = q.1 ∧ RV L γ p.2 q.2) (ks.zip vs) (ks.zip us)
  | [], _, _, _ => by simp only [List.zip_nil_left]; exact .nil
  | k :: ks, _, _, .nil => by simp only [List.zip_nil_right]; exact .nil
  | k :: ks, _, _, .cons h hs => by
    simp only [List.zip_cons_cons]
    exact .cons ⟨rfl, h⟩ (forall2_zip hs)
theorem zip_map (l : List (Nat × Operand)) (f : Operand → Value) : (l.map (·.1)).zip ((l.map (·.2)).map f) = l.map fun p => (p.1, f p.2) := by
  induction l with
  | nil => rfl
  | cons p l ih =>
    simp only [List.map_cons, List.zip_cons_cons, ih]
theorem op_build (H : Ahead P E call w0 X Pr0 sl get γ Pr a w res r0 o vs v u) {T : TypeId} {ps : Array (Nat × Operand)} (hop : o.op = .build T ps) : Done P w0 X Pr0 sl get γ Pr a w r0 o v u := by
  obtain ⟨hE, hI, hk, hfr, hv, hc⟩ := H
  rw [hop] at hv
  unfold core at hc
  simp only [hop] at hc
  have hc' : (match nth E.ty T with
    | some (.agg t) => match dfltSV (.agg t) with
      | .strct l => match buildFields res (fieldTys t) ((ps.toList.map (·.1)).zip vs) l with
        | some l => match closeUp t l with | some v => ans v [] | none => none
        | none => none
      | _ => none
    | _ => none) = some (v, u) := by
    rcases vs with _ | ⟨v1, _ | ⟨v2, _ | ⟨v3, vs⟩⟩⟩ <;> exact hc
  split at hc'
  · rename_i t hT
    obtain ⟨hU, hi⟩ := nth_ok hE hT
    split at hc'
    · rename_i l hl
      split at hc'
      · rename_i l' hb
        split at hc'
        · rename_i v' hcl
          cases hc'
          obtain ⟨fs, hfs, hF⟩ := hU
          obtain ⟨i, hi1, hi2, z, hz, hzc⟩ := hi.info
          have hl' : l = dfltSV.go t := by
            have : SV.strct (dfltSV.go t) = SV.strct l := hl
            cases this
            rfl
          have hd : RTs (Ln Pr w) γ t l z.cells.toList := by
            rw [hzc, hl']
            exact (dflt_ok t).2 hi.wf
          have hplace : ∀ f fl s o, fs.toList[f]? = some fl → offF t f = some (o, s) → (fs.map fun f => (f.offset, (P.info? f.type).elim 0 (·.size)))[f]? = some (o, s.sz) := by
            intro f fl s o h1 h2
            obtain ⟨fl', h3, h4, _, h5⟩ := FOk_get hF h2
            rw [h1] at h3
            cases h3
            obtain ⟨j, hj1, hj2, _⟩ := h5.info
            simp only [Array.getElem?_map]
            rw [← Array.getElem?_toList, h1]
            simp [h4, hj1, hj2]
          have hf2 := forall2_zip (ks := ps.toList.map (·.1)) (show RVs (Ln Pr w) γ vs ((ps.toList.map (·.2)).map a.eval) from hv)
          rw [zip_map] at hf2
          obtain ⟨cs', h1, h2⟩ := fill_ok (P := P) hI.gs (hI.tys hk) hF hi.wf hplace _ _ l l' z.cells hf2 hd hb
          have hfields : ∀ (l : List Field) (t : Ty) (o : Nat), FOk P l t o → (l.mapM fun f => (do pure (f.offset, ← sizeOf f.type) : Sem (Nat × Nat))).run P w = .ok (l.map fun f => (f.offset, (P.info? f.type).elim 0 (·.size))) w := by
            intro l
            induction l with
            | nil => intro t o _; simp
            | cons f l ih =>
              intro t o h
              cases t with
              | pair a b =>
                obtain ⟨j, hj1, hj2, _⟩ := h.2.2.2.1.info
                simp only [List.mapM_cons, Sem.run_bind, h.2.2.2.1.sizeOf, Result.andThen_ok, Sem.run_pure, ih b _ h.2.2.2.2, List.map_cons, hj1, Option.elim, hj2]
              | _ => exact h.elim
          refine owes_pure (u := .agg cs') (s := Instr.build T (ps.map fun (i, x) => (i, a.eval x))) hI (by simp only [execOp, hop]) ?_ (closeUp_ok h2 hcl).1
          simp only [Instr.build, zeroValue, typeInfo, Sem.run_bind, run_program, hi1, Sem.run_pure, Result.andThen_ok, hz, run_underlying hfs]
          rw [Array.mapM_eq_mapM_toList]
          simp only [Sem.run_bind, Sem.run_map, hfields _ _ _ hF]
          have e1 : (List.map (fun f => (f.offset, (P.info? f.type).elim 0 (·.size))) fs.toList).toArray = fs.map fun f => (f.offset, (P.info? f.type).elim 0 (·.size)) := by
            apply Array.toList_inj.1
            simp
          simp only [Result.andThen_ok, e1, Array.toList_map]
          rw [h1]
          rfl
        · cases hc'
      · cases hc'
    · cases hc'
  · cases hc'
/-! ### Rows that are shared -/
/-- What a slot leads to, shared from now on. -/
theorem freeze_read (hI : Inv w0 X Pr0 sl get γ Pr a w) (hk : ∀ r x, getR res r = some x → get r = some x) (rows : List Nat) :
    ∃ Pr', Inv w0 X Pr0 sl (updG get (freeze res rows)) γ Pr' a w ∧ (∀ b o, Pr b o → Pr' b o) ∧ RowsOk (Ln Pr' w) γ res (fun r => r ∈ rows) ∧ (∀ r, r ∉ rows → updG get (freeze res rows) r = get r) ∧
      (∀ r e t xs fr, r ∈ rows → getR res r = some (.row e t xs fr) → updG get (freeze res rows) r = some (.row e t xs true)) ∧ (∀ r, (∀ e t xs fr, get r ≠ some (.row e t xs fr)) → updG get (freeze res rows) r = get r) := by
  obtain ⟨Pr', hI', hP, _, h1, h2, h3, h4⟩ := Inv.freeze_ok res rows (fun r x h => ⟨x, hk r x h, .inl rfl⟩) hI
  refine ⟨Pr', hI', hP, ?_, h4, h2, h1⟩
  refine rowsF hI' h2 ?_
  intro r e t xs h
  rw [h1 r (fun e' t' xs' fr' hh => by rw [hk r _ h] at hh; cases hh)]
  exact hk r _ h
theorem RK_slice_one {L : Lk} {e : TypeId} {t : Ty} {xs : List t.den} {cs : List Value} (h : RK L (.slice e t) xs cs) : ∃ A cap, cs = [.slice A xs.length cap] ∧ RK L (.slice e t) xs [.slice A xs.length cap] := by
  obtain ⟨A, cap, rfl, h1, h2⟩ := h
  exact ⟨A, cap, rfl, A, cap, rfl, h1, h2⟩
theorem RK_cut {L : Lk} {e : TypeId} {t : Ty} {xs : List t.den} {A : Option Addr} {cap l h : Nat} (hr : RK L (.slice e t) xs [.slice A xs.length cap]) (h1 : l ≤ h) (h2 : h ≤ xs.length) :
    RK L (.slice e t) ((xs.take h).drop l) [sliced A l h cap t.sz] := by
  obtain ⟨A', cap', he, hc, hA⟩ := hr
  cases he
  have hlen : ((xs.take h).drop l).length = h - l := by
    rw [List.length_drop, List.length_take]
    omega
  refine ⟨_, cap - l, by unfold sliced; rw [hlen], by rw [hlen]; omega, fun hne => ?_⟩
  have hlt : l < h := by
    rcases Nat.lt_or_ge l h with h' | h'
    · exact h'
    · exact absurd (List.eq_nil_of_length_eq_zero (by rw [hlen]; omega)) hne
  obtain ⟨b, o, rfl, hh⟩ := hA (by intro hx; subst hx; simp at h2; omega)
  refine ⟨b, o + l * t.sz, ?_, fun i hi => ?_⟩
  · rw [if_neg (by omega)]
    simp only [Option.map_some, add_lit]
  · rw [hlen] at hi
    obtain ⟨c, h3, h4⟩ := hh (l + i) (by omega)
    refine ⟨c, ?_, fun j v hj => ?_⟩
    · rw [List.getElem_drop, List.getElem_take]
      exact h3
    · have := h4 j v hj
      rwa [Nat.add_mul, ← Nat.add_assoc] at this
theorem sliceAt_ok {T e : TypeId} {t : Ty} {A : Option Addr} {n cap : Nat} {lo hi : Option Int} {kl kh : IntKind} (hU : UnderOk P T (.slice e t)) (hn : n ≤ cap) (h1 : 0 ≤ lo.getD 0) (h2 : lo.getD 0 ≤ hi.getD n) (h3 : hi.getD n ≤ n) :
    (Instr.sliceAt T (.slice A n cap) (lo.map (.int kl)) (hi.map (.int kh)) none).run P w = .ok (sliced A (lo.getD 0).toNat (hi.getD n).toNat cap t.sz) w := by
  obtain ⟨hT, hei, _⟩ := hU
  have hel : P.elem T = e := by simp [Program.elem, hT]
  have hT' : P.underlying T = some (.slice (P.elem T)) := by rw [hel]; exact hT
  rw [run_sliceAt_slice _ _ _ _ _ _ hT']
  cases lo <;> cases hi <;> simp only [Option.map_none, Option.map_some, Option.getD_none, Option.getD_some] at h1 h2 h3 ⊢
  · rw [run_slice_all _ _ _ _ _ hT', hel, hei.sizeOf]
    rfl
  · rw [run_slice_h _ _ _ _ _ hT' _ _ h2 (by omega), hel, hei.sizeOf]
    rfl
  · rw [run_slice_l _ _ _ _ _ hT' _ _ h1 h2, hel, hei.sizeOf]
    rfl
  · rw [run_slice_lh _ _ _ _ _ hT' _ _ _ _ h1 h2 (by omega), hel, hei.sizeOf]
    rfl
theorem cutList_ok {e : TypeId} {t : Ty} {xs : List t.den} {lo hi : Option Int} {u0 : Up} (h : cutList e t xs lo hi u0 ans = some (v, u)) :
    u = u0 ∧ 0 ≤ lo.getD 0 ∧ lo.getD 0 ≤ hi.getD xs.length ∧ hi.getD xs.length ≤ xs.length ∧ v = .val (.slice e t) ((xs.take (hi.getD xs.length).toNat).drop (lo.getD 0).toNat) := by
  unfold cutList at h
  split at h
  · cases h
    refine ⟨rfl, Int.le_refl _, Int.natCast_nonneg _, Int.le_refl _, ?_⟩
    simp
  · split at h
    · split at h
      · cases h
        refine ⟨rfl, Int.le_refl _, by assumption, by assumption, ?_⟩
        simp
      · cases h
    · cases h
  · split at h
    · split at h
      · cases h
        refine ⟨rfl, by assumption, by assumption, Int.le_refl _, ?_⟩
        simp
      · cases h
    · cases h
  · split at h
    · split at h
      · split at h
        · split at h
          · cases h
            exact ⟨rfl, by assumption, by assumption, by assumption, rfl⟩
          · cases h
        · cases h
      · cases h
    · cases h
/-- A cut of a row that is shared. -/
theorem cut_ok {L : Lk} {T e : TypeId} {t : Ty} {xs : List t.den} {lo hi : Option Int} {kl kh : IntKind} {u0 : Up} {x : Value} (hU : UnderOk P T (.slice e t)) (hx : RK L (.slice e t) xs [x]) (h : cutList e t xs lo hi u0 ans = some (v, u)) :
    u = u0 ∧ ∃ z, (Instr.sliceAt T x (lo.map (.int kl)) (hi.map (.int kh)) none).run P w = .ok z w ∧ RV L γ v z := by
  obtain ⟨rfl, h1, h2, h3, rfl⟩ := cutList_ok h
  obtain ⟨A, cap, he, hr⟩ := RK_slice_one hx
  cases he
  refine ⟨rfl, _, sliceAt_ok hU (by obtain ⟨_, _, he, hc, _⟩ := hr; cases he; exact hc) h1 h2 h3, ?_⟩
  exact RV.val (t := .slice e t) (RK_cut hr (by omega) (by omega))
theorem cutStr_ok {L : Lk} {T : TypeId} {s : ByteArray} {lo hi : Option Int} {kl kh : IntKind} (hU : P.underlying T = some .string) (h : cutStr s lo hi ans = some (v, u)) :
    u = [] ∧ ∃ z, (Instr.sliceAt T (.string s) (lo.map (.int kl)) (hi.map (.int kh)) none).run P w = .ok z w ∧ RV L γ v z := by
  have key : ∀ l h : Int, 0 ≤ l → l ≤ h → h ≤ s.size → lo.getD 0 = l → hi.getD s.size = h → (Instr.sliceAt T (.string s) (lo.map (.int kl)) (hi.map (.int kh)) none).run P w = .ok (.string (s.extract l.toNat h.toNat)) w := by
    intro l h h1 h2 h3 h4 h5
    have hb : (Instr.sliceBounds false s.size s.size (lo.map (.int kl)) (hi.map (.int kh)) none).run P w = .ok (l.toNat, h.toNat, s.size) w := by
      subst h4 h5
      have hh : ((hi.getD s.size).toNat : Int) = hi.getD s.size := Int.toNat_of_nonneg (by omega)
      cases lo <;> cases hi <;> simp only [Option.map_none, Option.map_some, Option.getD_none, Option.getD_some] at h1 h2 h3 hh ⊢ <;>
        simp only [Instr.sliceBounds, Sem.run_bind, Sem.run_pure, Result.andThen_ok]
      · rfl
      · rw [run_sliceBound _ _ _ _ _ h2 h3]
        rfl
      · rw [run_sliceBound _ _ _ _ _ h1 h2]
        rfl
      · rw [run_sliceBound _ _ _ _ _ (by omega) h3]
        simp only [Result.andThen_ok]
        rw [run_sliceBound _ _ _ _ _ h1 (by omega)]
        rfl
    rw [run_sliceAt_string _ _ _ _ _ _ hU]
    simp [Instr.slice, run_underlying hU, hb]
  unfold cutStr at h
  split at h
  · cases h
    refine ⟨rfl, _, key 0 s.size (Int.le_refl _) (Int.natCast_nonneg _) (Int.le_refl _) rfl rfl, ?_⟩
    have : s.extract (Int.toNat 0) (Int.toNat s.size) = s := by simp
    rw [this]
    exact str_val
  · split at h
    · split at h
      · cases h
        exact ⟨rfl, _, key 0 _ (Int.le_refl _) (by assumption) (by assumption) rfl rfl, str_val⟩
      · cases h
    · cases h
  · split at h
    · split at h
      · cases h
        exact ⟨rfl, _, key _ s.size (by assumption) (by assumption) (Int.le_refl _) rfl rfl, str_val⟩
      · cases h
    · cases h
  · split at h
    · split at h
      · split at h
        · split at h
          · cases h
            exact ⟨rfl, _, key _ _ (by assumption) (by assumption) (by assumption) rfl rfl, str_val⟩
          · cases h
        · cases h
      · cases h
    · cases h
theorem flatten_take {α : Type} : ∀ {css : List (List α)} {n k : Nat}, (∀ c ∈ css, c.length = n) → (css.take k).flatten = css.flatten.take (k * n)
  | [], n, k, _ => by simp
  | c :: css, n, 0, _ => by simp
  | c :: css, n, k + 1, h => by
    have hc : c.length = n := h c (by simp)
    rw [List.take_succ_cons, List.flatten_cons, List.flatten_cons, flatten_take (fun d hd => h d (List.mem_cons_of_mem _ hd)), List.take_append, Nat.succ_mul, hc]
    rw [List.take_of_length_le (l := c) (by omega), Nat.add_sub_cancel]
theorem optInt_ok {L : Lk} {x : Option SV} {y : Option Value} {n : Option Int} (h : optInt x = some n) (hx : ∀ z, x = some z → ∃ u, y = some u ∧ RV L γ z u) (hn : x = none → y = none) : ∃ k, y = n.map (.int k) := by
  cases x with
  | none =>
    cases h
    exact ⟨.i64, hn rfl⟩
  | some z =>
    obtain ⟨u, rfl, hu⟩ := hx z rfl
    simp only [optInt, Option.bind_eq_some_iff] at h
    obtain ⟨⟨k, m⟩, hz, he⟩ := h
    cases he
    unfold intOf at hz
    split at hz
    · cases hz
      rw [val_int hu]
      exact ⟨_, rfl⟩
    · cases hz
theorem op_slice (H : Ahead P E call w0 X Pr0 sl get γ Pr a w res r0 o vs v u) {T : TypeId} {i : Operand} {lo hi mx : Option Operand} (hop : o.op = .slice T i lo hi mx) : Done P w0 X Pr0 sl get γ Pr a w r0 o v u := by
  obtain ⟨hE, hI, hk, hfr, hv, hc⟩ := H
  rw [hop] at hv
  cases hv with
  | cons hp hrest =>
    rename_i p is
    have hc' : (match (generalizing := false) nth E.ty T, mx with
      | some ty, none => match tailHere E T o.dst with
        | true => tailSV lo hi ty p is res ans
        | false => sliceSV ty (match (generalizing := false) lo with | some _ => is.head? | none => none) (match (generalizing := false) hi with | some _ => is.getLast? | none => none) p res r0 ans
      | _, _ => none) = some (v, u) := by
      unfold core at hc
      simp only [hop] at hc
      rcases is with _ | ⟨v2, _ | ⟨v3, vs⟩⟩ <;> exact hc
    have ho : execOp a.eval o = (do pure (.value (← Instr.sliceAt T (a.eval i) (lo.map a.eval) (hi.map a.eval) (mx.map a.eval)))) := by simp only [execOp, hop]
    split at hc'
    · rename_i ty hT
      obtain ⟨hU, hi'⟩ := nth_ok hE hT
      split at hc'
      · unfold tailSV at hc'
        split at hc'
        · rename_i lo0 e0 t0 r
          split at hc'
          · rename_i e t xs kl l hg
            split at hc'
            · rename_i hst
              cases hst
              split at hc'
              · rename_i h0
                split at hc'
                · rename_i h1
                  cases hc'
                  have h0 : @LE.le Int _ 0 l := h0
                  have h1 : @LT.lt Int _ l (List.length xs : Int) := h1
                  have hrest' : RVs (Ln Pr w) γ [SV.val (.int kl) l] ([lo0].map a.eval) := by simpa using hrest
                  have hq1 : a.eval lo0 = .int kl l := by
                    cases hrest' with
                    | cons h1 _ => exact val_int h1
                  obtain ⟨v', css, hv', hels, hown, hf⟩ := hI.res r _ (hk r _ hg)
                  generalize hx : a.eval i = x at *
                  cases hp with
                  | row hrow =>
                    rw [hv'] at hrow
                    cases hrow
                    rcases hown.2 with ⟨rfl, hn⟩ | ⟨g, cap, cur, rfl, hb, hheap, hnc, hcm, hcs, htake⟩
                    · omega
                    · refine owes_run hI ?_ (.tail hv' h0 h1 hnc)
                      rw [ho]
                      have hs := sliceAt_ok (P := P) (w := w) (A := some ⟨g, 0, none⟩) (lo := some l) (hi := none) (kl := kl) (kh := .i64) hU hnc h0 (by simp only [Option.getD_some, Option.getD_none]; omega) (Int.le_refl _)
                      have hsl : sliced (some ⟨g, 0, none⟩) (Option.getD (some l) 0).toNat (Option.getD (none : Option Int) (xs.length : Int)).toNat cap t0.sz = .slice (some ⟨g, l.toNat * t0.sz, none⟩) (xs.length - l.toNat) (cap - l.toNat) := by
                        simp only [Option.getD_none, Option.getD_some, sliced, Int.toNat_natCast]
                        rw [if_neg (by omega)]
                        simp only [Option.map_some, add_lit, Nat.zero_add]
                      rw [hsl] at hs
                      simp only [Option.map_none, Option.map_some, hq1] at hs ⊢
                      simp only [Sem.run_bind, hs, Result.andThen_ok, Sem.run_pure]
                · cases hc'
              · cases hc'
            · cases hc'
          · cases hc'
        · cases hc'
      unfold sliceSV at hc'
      obtain ⟨p', hpe⟩ : ∃ p', p' = p := ⟨p, rfl⟩
      have hbounds : (∀ n, optInt (match lo with | some _ => is.head? | none => none) = some n → ∃ k, lo.map a.eval = n.map (.int k)) ∧ (∀ n, optInt (match hi with | some _ => is.getLast? | none => none) = some n → ∃ k, hi.map a.eval = n.map (.int k)) := by
        have hrest' : RVs (Ln Pr w) γ is ((lo.toList ++ hi.toList).map a.eval) := by simpa using hrest
        cases lo with
        | none => cases hi with
          | none =>
            cases hrest'
            exact ⟨fun n h => optInt_ok (L := Ln Pr w) (γ := γ) h (fun z hz => by cases hz) (fun _ => rfl), fun n h => optInt_ok (L := Ln Pr w) (γ := γ) h (fun z hz => by cases hz) (fun _ => rfl)⟩
          | some y =>
            obtain ⟨q, rfl, hq⟩ := RVs_one hrest'
            exact ⟨fun n h => optInt_ok (L := Ln Pr w) (γ := γ) h (fun z hz => by cases hz) (fun _ => rfl), fun n h => optInt_ok (L := Ln Pr w) (γ := γ) h (fun z hz => by cases hz; exact ⟨_, rfl, hq⟩) (fun h => by cases h)⟩
        | some x => cases hi with
          | none =>
            obtain ⟨q, rfl, hq⟩ := RVs_one hrest'
            exact ⟨fun n h => optInt_ok (L := Ln Pr w) (γ := γ) h (fun z hz => by cases hz; exact ⟨_, rfl, hq⟩) (fun h => by cases h), fun n h => optInt_ok (L := Ln Pr w) (γ := γ) h (fun z hz => by cases hz) (fun _ => rfl)⟩
          | some y =>
            obtain ⟨q, q', rfl, hq, hq'⟩ := RVs_two hrest'
            exact ⟨fun n h => optInt_ok (L := Ln Pr w) (γ := γ) h (fun z hz => by cases hz; exact ⟨_, rfl, hq⟩) (fun h => by cases h), fun n h => optInt_ok (L := Ln Pr w) (γ := γ) h (fun z hz => by cases hz; exact ⟨_, rfl, hq'⟩) (fun h => by cases h)⟩
      split at hc'
      · rename_i l h s hl hh
        obtain ⟨kl, el⟩ := hbounds.1 _ hl
        obtain ⟨kh, eh⟩ := hbounds.2 _ hh
        rw [el, eh, val_str hp] at ho
        obtain ⟨rfl, z, h1, h2⟩ := cutStr_ok (P := P) (w := w) (L := Ln Pr w) (γ := γ) (kl := kl) (kh := kh) hU hc'
        exact owes_pure hI ho h1 h2
      · rename_i h e0 t0 r hl hh
        obtain ⟨kl, el⟩ := hbounds.1 _ hl
        obtain ⟨kh, eh⟩ := hbounds.2 _ hh
        rw [el, eh] at ho
        split at hc'
        · rename_i e t xs hg
          split at hc'
          · rename_i hst
            cases hst
            split at hc'
            · rename_i h0
              split at hc'
              · rename_i h1
                cases hc'
                obtain ⟨v', css, hv', hels, hown, hf⟩ := hI.res r _ (hk r _ hg)
                have h00 : γ r0 = none := hfr r0 (Nat.le_refl _) (by omega)
                generalize hx : a.eval i = x at *
                cases hp with
                | row hrow =>
                  rw [hv'] at hrow
                  cases hrow
                  have hh : h.toNat ≤ xs.length := by omega
                  obtain ⟨A, cap, rfl, hcap, hA⟩ : ∃ A cap, v' = .slice A xs.length cap ∧ xs.length ≤ cap ∧ w.ownsRow 0 e0 t0.sz (.slice A h.toNat cap) (xs.take h.toNat).length (css.take h.toNat).flatten := by
                    have hl : (xs.take h.toNat).length = h.toNat := by rw [List.length_take]; omega
                    have hfl : (css.take h.toNat).flatten.length = h.toNat * t0.sz := by
                      rw [flatten_take hels.lens, List.length_take, hels.flat]
                      exact Nat.min_eq_left (Nat.mul_le_mul_right _ hh)
                    rcases hown.2 with ⟨rfl, hn⟩ | ⟨g, cap, cur, rfl, hb, hheap, hnc, hcm, hcs, htake⟩
                    · refine ⟨none, 0, by rw [hn], by omega, by rw [hl]; exact hfl, .inl ⟨?_, by omega⟩⟩
                      rw [show h.toNat = 0 by omega]
                    · refine ⟨some ⟨g, 0, none⟩, cap, rfl, hnc, by rw [hl]; exact hfl, .inr ⟨g, cap, cur, by rw [hl], hb, hheap, by omega, hcm, hcs, ?_⟩⟩
                      rw [flatten_take hels.lens, hl, ← htake, List.take_take]
                      congr 1
                      exact (Nat.min_eq_left (Nat.mul_le_mul_right _ hh)).symm
                  have hels' : Els (Ln Pr w) t0 (xs.take h.toNat) (css.take h.toNat) := by
                    refine ⟨by rw [List.length_take, List.length_take, hels.1], fun j hj hj' => ?_⟩
                    rw [List.getElem_take, List.getElem_take]
                    exact hels.2 j (by rw [List.length_take] at hj; omega) (by rw [List.length_take] at hj'; omega)
                  obtain ⟨Pr', hI', hP'⟩ := hI.rebind (r0 := r0) (xs' := xs.take h.toNat) (css' := css.take h.toNat) (w' := w) (hk r _ hg) h00 hv' ⟨rfl, rfl, rfl, Nat.le_refl _, fun _ _ _ => rfl⟩ hA hels' (fun h => by cases h) ⟨_, _, _, rfl⟩ (fun b hb => .inl (by cases A <;> exact hb)) (fun h => by cases h)
                  · refine owes_new (u := .slice A h.toNat cap) (γ' := give γ r0 (.row e0 t0 (.slice A h.toNat cap))) (w' := w) (Pr' := Pr') hI' ?_ (.row give_same) give_far
                    · rw [ho]
                      have hs := sliceAt_ok (P := P) (w := w) (A := A) (lo := none) (hi := some h) (kl := kl) (kh := kh) hU hcap (Int.le_refl _) h0 h1
                      have hsl : sliced A (Option.getD (none : Option Int) 0).toNat (Option.getD (some h) (xs.length : Int)).toNat cap t0.sz = .slice A h.toNat cap := by
                        simp only [Option.getD_none, Option.getD_some, sliced, Int.toNat_zero, Nat.sub_zero, Nat.zero_mul]
                        split
                        · rfl
                        · cases A with
                          | none => rfl
                          | some ad =>
                            simp only [Option.map_some]
                            have : ad.add 0 = ad := by unfold Addr.add; simp
                            rw [this]
                      rw [hsl] at hs
                      simp only [Option.map_none] at hs ⊢
                      simp only [Sem.run_bind, hs, Result.andThen_ok, Sem.run_pure]
              · cases hc'
            · cases hc'
          · cases hc'
        · rename_i e t xs hg
          split at hc'
          · rename_i hst
            cases hst
            have hres := hI.res r _ (hk r _ hg)
            obtain ⟨v', hv', hrk⟩ := row_RK (Pr' := Pr) hres (fun _ _ h => h) (by
              obtain ⟨v', css, hv', he, hown, hf⟩ := hres
              intro b hb
              refine hf rfl b ?_
              simpa [blk, hv'] using hb)
            generalize hx : a.eval i = x at *
            cases hp with
            | row h =>
              rw [hv'] at h
              cases h
              obtain ⟨rfl, z, h1, h2⟩ := cut_ok (P := P) (w := w) (γ := γ) (kl := kl) (kh := kh) hU hrk hc'
              exact owes_pure hI ho h1 h2
          · cases hc'
        · rename_i e t xs hg
          split at hc'
          · rename_i hst
            cases hst
            obtain ⟨v', hv', hrk⟩ := hI.res r _ (hk r _ hg)
            generalize hx : a.eval i = x at *
            cases hp with
            | row h =>
              rw [hv'] at h
              cases h
              obtain ⟨rfl, z, h1, h2⟩ := cut_ok (P := P) (w := w) (γ := γ) (kl := kl) (kh := kh) hU hrk hc'
              exact owes_pure hI ho h1 h2
          · cases hc'
        · cases hc'
      · rename_i l h e t hl hh hne
        subst hpe
        obtain ⟨kl, el⟩ := hbounds.1 _ hl
        obtain ⟨kh, eh⟩ := hbounds.2 _ hh
        rw [el, eh] at ho
        split at hc'
        · rename_i xs hx
          obtain ⟨Pr', hI', hP, hR, _⟩ := freeze_read hI hk (rowsIn 9 p')
          obtain ⟨cs, hx', hrk⟩ := toVal_RV hR (d' := 9) (by omega) (fun r hr => hr) (RV_mono (fun b o v h => ⟨hP _ _ h.1, h.2⟩) (fun _ _ h => h) hp) hx
          obtain ⟨A, cap, rfl, hrk'⟩ := RK_slice_one hrk
          rw [hx'] at ho
          obtain ⟨rfl, z, h1, h2⟩ := cut_ok (P := P) (w := w) (γ := γ) (kl := kl) (kh := kh) hU hrk' hc'
          refine owes_run hI' ?_ h2
          rw [ho]
          have h1' : (Instr.sliceAt T (mk (.slice e t) [.slice A (xs : List t.den).length cap]) (Option.map (Value.int kl) l) (Option.map (Value.int kh) h) (Option.map a.eval none)).run P w = .ok z w := h1
          simp only [Sem.run_bind, h1', Result.andThen_ok, Sem.run_pure]
        · cases hc'
      · cases hc'
    · cases hc'
end
end Go.Proofs.YtiligfmembmapaaGreatDoor.Abs
