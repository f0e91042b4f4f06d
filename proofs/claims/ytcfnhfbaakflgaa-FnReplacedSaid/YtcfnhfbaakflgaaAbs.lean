/- A reader of the model's code over plain values: it says what a function computes, with no memory in sight. What it says is shown to hold of the model in the texts behind it. -/
import Derived.Calls
import Derived.KernelRfl
import Derived.Laws.BytesArg
namespace Go.Proofs.Ytcfnhfbaakflgaa.Abs
set_option linter.unusedVariables false
open Go

/-- A string's byte at a place. -/
def bt (s : ByteArray) (i : Int) : Int := if h : i.toNat < s.size then ((s[i.toNat]'h).toNat : Int) else 0
/-! ### 1. Values -/
inductive Ty where
  | int (k : IntKind)
  | bool
  | str
  | unit
  | pair (a b : Ty)
  | agg (t : Ty)
  | slice (e : TypeId) (t : Ty)
  deriving DecidableEq
@[reducible] def Ty.den : Ty → Type
  | .int _ => Int
  | .bool => Bool
  | .str => ByteArray
  | .unit => Unit
  | .pair a b => a.den × b.den
  | .agg t => t.den
  | .slice _ t => List t.den
def Ty.dflt : (t : Ty) → t.den
  | .int _ => (0 : Int)
  | .bool => false
  | .str => (⟨#[]⟩ : ByteArray)
  | .unit => ()
  | .pair a b => (a.dflt, b.dflt)
  | .agg t => t.dflt
  | .slice _ _ => []
/-- How many cells. -/
def Ty.sz : Ty → Nat
  | .unit => 0
  | .pair a b => a.sz + b.sz
  | .agg t => t.sz
  | _ => 1
def cast? {t : Ty} (s : Ty) (x : t.den) : Option s.den := if h : t = s then some (h ▸ x) else none

/-- What stands in a slot. -/
inductive SV where
  | undef
  | nilS
  | val (t : Ty) (x : t.den)
  | row (r : Nat)
  | ptr (r : Nat) (s : Ty) (path : List Nat)
  | eptr (t : Ty) (x : t.den)
  | rptr (r : Nat) (s : Ty) (i : Int) (path : List Nat)
  | tail (r : Nat) (i : Int)      -- what of a row stands from i on
  | fn (g : Nat) (caps : List SV)
  | tup (l : List SV)
  | strct (l : List SV)
/-- What a slot may lead to: a variable in memory; a row of the call's own. -/
inductive Res where
  | box (t : Ty) (c : SV)
  | row (e : TypeId) (t : Ty) (xs : List t.den) (fr : Bool)
  | old (e : TypeId) (t : Ty) (xs : List t.den)
abbrev Tab := List (Nat × Res)
structure St where
  slots : List SV
  res : Tab
  nx : Nat
  n0 : Nat

def slot (l : List SV) : Nat → SV
  | 0 => match l with | x :: _ => x | [] => .undef
  | n + 1 => match l with | _ :: r => slot r n | [] => .undef
def setSlot : List SV → Nat → SV → List SV
  | [], _, _ => []
  | _ :: r, 0, v => v :: r
  | x :: r, n + 1, v => x :: setSlot r n v
def getR : Tab → Nat → Option Res
  | [], _ => none
  | (k, v) :: l, r => match Nat.beq k r with | true => some v | false => getR l r
def delR : Tab → Nat → Tab
  | [], _ => []
  | (k, v) :: l, r => match Nat.beq k r with | true => delR l r | false => (k, v) :: delR l r
def setR (l : Tab) (r : Nat) (v : Res) : Tab := (r, v) :: delR l r

/-! ### 2. Fields -/
def offF : Ty → Nat → Option (Nat × Ty)
  | .pair a _, 0 => some (0, a)
  | .pair a b, n + 1 => (offF b n).map fun p => (a.sz + p.1, p.2)
  | _, _ => none
def offP : Ty → List Nat → Option (Nat × Ty)
  | t, [] => some (0, t)
  | .agg t, f :: p => (offF t f).bind fun q => (offP q.2 p).map fun q' => (q.1 + q'.1, q'.2)
  | _, _ :: _ => none
def getF : (t : Ty) → t.den → Nat → Option SV
  | .pair a _, x, 0 => some (.val a x.1)
  | .pair _ b, x, n + 1 => getF b x.2 n
  | _, _, _ => none
/-- A record's fields, each for itself. -/
def fieldsOf : (t : Ty) → t.den → List SV
  | .pair a b, x => .val a x.1 :: fieldsOf b x.2
  | _, _ => []
def spread : SV → SV
  | .val (.agg t) x => .strct (fieldsOf t x)
  | v => v
def svGet : SV → Nat → Option SV
  | .val (.agg t) x, f => getF t x f
  | .strct l, f => l[f]?
  | _, _ => none
def svGetP : List Nat → SV → Option SV
  | [], v => some v
  | f :: p, v => (svGet v f).bind (svGetP p)
def svSetP : List Nat → SV → SV → Option SV
  | [], _, u => some (spread u)
  | f :: p, v, u => match spread v with
    | .strct l => (l[f]?).bind fun z => (svSetP p z u).bind fun z' => some (.strct (l.set f z'))
    | _ => none
def getP : List Nat → (t : Ty) → t.den → Option SV
  | [], t, x => some (.val t x)
  | f :: p, .agg t, x => match getF t x f with
    | some (.val s y) => getP p s y
    | _ => none
  | _ :: _, _, _ => none
def putF : (t : Ty) → t.den → Nat → ((s : Ty) → s.den → Option s.den) → Option t.den
  | .pair a _, x, 0, g => (g a x.1).bind fun y => some (y, x.2)
  | .pair _ b, x, n + 1, g => (putF b x.2 n g).bind fun y => some (x.1, y)
  | _, _, _, _ => none
def putP : List Nat → (t : Ty) → t.den → ((s : Ty) → Option s.den) → Option t.den
  | [], t, _, u => u t
  | f :: p, .agg t, x, u => putF t x f fun s y => putP p s y u
  | _ :: _, _, _, _ => none

/-- A slot's content as one plain value of a type that is known. -/
def toPairs (g : (t : Ty) → SV → Option t.den) : (t : Ty) → List SV → Option t.den
  | .pair a b, x :: l => (g a x).bind fun u => (toPairs g b l).bind fun v => some (u, v)
  | .unit, [] => some ()
  | _, _ => none
def toVal (res : Tab) : Nat → (t : Ty) → SV → Option t.den
  | 0, _, _ => none
  | _ + 1, t, .val s x => cast? t x
  | _ + 1, .slice _ _, .nilS => some []
  | _ + 1, t, .row r => match getR res r with
    | some (.row e s xs _) => cast? (t := .slice e s) t xs
    | some (.old e s xs) => cast? (t := .slice e s) t xs
    | _ => none
  | d + 1, .agg t, .strct l => toPairs (toVal res d) t l
  | _, _, _ => none
/-- The rows that a slot's content leads to: they are shared from now on. -/
def rowsIn : Nat → SV → List Nat
  | 0, _ => []
  | _ + 1, .row r => [r]
  | d + 1, .strct l => l.flatMap (rowsIn d)
  | _, _ => []

/-! ### 3. What is known of the program -/
/-- The shape in which a result comes back. -/
inductive Sh where
  | val (t : Ty)
  | row (e : TypeId) (t : Ty) (fr : Bool)
  | unit
  | pair (a b : Sh)
  | strct (s : Sh)
  | ptr (t : Ty)     -- a variable of the call's own
@[reducible] def Sh.den : Sh → Type
  | .val t => t.den
  | .row _ t _ => List t.den
  | .unit => Unit
  | .pair a b => a.den × b.den
  | .strct s => s.den
  | .ptr t => t.den
/-- Which of two readings a call takes. -/
structure Sub where
  yes : Nat
  no : Nat
  dec : Tab → List SV → Option Bool
structure FnI where
  g : Nat
  fn : Func
  sh : Sh          -- the results, one behind the other
  bx : Sh          -- what the variables hold behind the call that were handed on
  own : List Bool  -- which parameters hand a row over
  live : List (Nat × List Nat)   -- ahead of which regions which slots are still wanted
  rb : Bool := false             -- do rows that were handed over come back?
  prim : Option (List SV → Tab → Option (sh.den × bx.den)) := none   -- what it says, where that is shown otherwise
  sub : List (Nat × Sub) := []    -- calls in it that have two readings
structure Env where
  ty : List (Nat × Ty)
  by_ : List (Nat × Nat)      -- how many bytes an element of a type has
  fns : List (Nat × FnI)
  eqs : List (Nat × Ty) := []     -- records that may be compared
  tails : List (Nat × Nat) := []  -- where a row's tail is wanted as such
  sub : List (Nat × Sub) := []
def nth {α : Type} : List (Nat × α) → Nat → Option α
  | [], _ => none
  | (k, v) :: l, r => match Nat.beq k r with | true => some v | false => nth l r

/-! ### 4. One operation: what stands in its slot behind it (K is told), what becomes of what slots lead to -/
abbrev Up := List (Nat × Option Res)
def applyU : Tab → Up → Tab
  | res, [] => res
  | res, (r, some v) :: u => applyU (setR res r v) u
  | res, (r, none) :: u => applyU (delR res r) u
/-- Rows that are shared from now on. -/
def freeze (res : Tab) (l : List Nat) : Up := l.filterMap fun r => match getR res r with
  | some (.row e t xs false) => some (r, some (.row e t xs true))
  | _ => none

def oldOf (e : TypeId) (t : Ty) (xs : List t.den) : Bool → Option Res
  | true => some (.old e t xs)
  | false => none
def plainB : SV → Bool
  | .val _ _ => true
  | _ => false
def dfltSV : Ty → SV
  | .slice _ _ => .nilS
  | .agg t => .strct (go t)
  | t => .val t t.dflt
where
  go : Ty → List SV
  | .pair a b => dfltSV a :: go b
  | _ => []
/-- Does a slot's content fit a variable's type? -/
def fits (res : Tab) : Nat → Ty → SV → Bool
  | 0, _, _ => false
  | _ + 1, t, .val s _ => decide (s = t)
  | _ + 1, .slice _ _, .nilS => true
  | _ + 1, t, .row r => match getR res r with
    | some (.row e s _ _) => decide (Ty.slice e s = t)
    | some (.old e s _) => decide (Ty.slice e s = t)
    | _ => false
  | d + 1, .agg t, .strct l => go (fits res d) t l
  | _, _, _ => false
where
  go (g : Ty → SV → Bool) : Ty → List SV → Bool
  | .pair a b, x :: l => g a x && go g b l
  | .unit, [] => true
  | _, _ => false

def eqB : (t : Ty) → t.den → t.den → Bool
  | .int _, x, y => (x : Int) == y
  | .bool, x, y => (x : Bool) == y
  | .str, x, y => (x : ByteArray) == y
  | .unit, _, _ => true
  | .pair a b, x, y => eqB a x.1 y.1 && eqB b x.2 y.2
  | .agg t, x, y => eqB t x y
  | .slice _ _, _, _ => false
def noSlice : Ty → Bool
  | .pair a b => noSlice a && noSlice b
  | .agg t => noSlice t
  | .slice _ _ => false
  | _ => true

/-- Results as slots' contents; rows among them get numbers from n on. -/
def mkSV : (s : Sh) → s.den → Nat → SV × Up × Nat
  | .val t, x, n => (.val t x, [], n)
  | .row e t fr, xs, n => (.row n, [(n, some (.row e t xs fr))], n + 1)
  | .unit, _, n => (.undef, [], n)
  | .strct s, x, n => let (l, u, m) := go s x n; (.strct l, u, m)
  | .pair _ _, _, n => (.undef, [], n)
  | .ptr t, x, n => (.ptr n t [], [(n, some (.box t (spread (.val t x))))], n + 1)
where
  go : (s : Sh) → s.den → Nat → List SV × Up × Nat
  | .pair a b, x, n =>
    let (v, u, m) := mkSV a x.1 n
    let (l, u', m') := go b x.2 m
    (v :: l, u ++ u', m')
  | _, _, n => ([], [], n)
def mkList (s : Sh) (x : s.den) (n : Nat) : List SV × Up × Nat := mkSV.go s x n
def ofSV (res : Tab) : (s : Sh) → SV → Option s.den
  | .val t, v => toVal res 9 t v
  | .row e t fr, .row r => match getR res r with
    | some (.row e' s xs fr') => match (fr == fr') with
      | true => cast? (t := .slice e' s) (.slice e t) xs
      | false => none
    | _ => none
  | .strct s, .strct l => go s l
  | _, _ => none
where
  go : (s : Sh) → List SV → Option s.den
  | .pair a b, v :: l => (ofSV res a v).bind fun x => (go b l).bind fun y => some (x, y)
  | .unit, [] => some ()
  | _, _ => none

section
variable {R : Type} (E : Env) (call : (I : FnI) → List SV → Tab → Option (I.sh.den × I.bx.den))

def sameOp : Operand → Operand → Bool
  | .tmp a, .tmp b => Nat.beq a b
  | .const (.int _ a), .const (.int _ b) => decide (a = b)
  | _, _ => false
def place (i : Nat) : List Nat → Nat → Option Nat
  | [], _ => none
  | x :: l, n => match Nat.beq x i with | true => some n | false => place i l (n + 1)
def hasN (l : List Nat) (n : Nat) : Bool := match place n l 0 with | some _ => true | none => false
def meets (l m : List Nat) : Bool := l.any (hasN m)
def hitB (o : Option Nat) (j : Nat) : Bool := match o with | some i => Nat.beq i j | none => false
/-- Numbers of what is led to, in the order in which they are met. -/
def addId (r : Nat) (l : List Nat) : List Nat := match place r l 0 with
  | some _ => l
  | none => l ++ [r]
def idsIn : Nat → SV → List Nat → List Nat
  | 0, _, l => l
  | _ + 1, .row r, l => addId r l
  | _ + 1, .ptr r _ _, l => addId r l
  | _ + 1, .rptr r _ _ _, l => addId r l
  | _ + 1, .tail r _, l => addId r l
  | d + 1, .fn _ caps, l => caps.foldl (fun l v => idsIn d v l) l
  | d + 1, .tup vs, l => vs.foldl (fun l v => idsIn d v l) l
  | d + 1, .strct vs, l => vs.foldl (fun l v => idsIn d v l) l
  | _, _, l => l
def idsRes (res : Tab) : Nat → Nat → List Nat → List Nat
  | 0, _, l => l
  | d + 1, j, l => match l[j]? with
    | none => l
    | some r => match getR res r with
      | some (.box _ c) => idsRes res d (j + 1) (idsIn 9 c l)
      | _ => idsRes res d (j + 1) l
def upTo : Nat → List Nat
  | 0 => []
  | n + 1 => upTo n ++ [n]
def reachOn (res : Tab) (vs : List SV) (l : List Nat) : List Nat := idsRes res 40 0 (vs.foldl (fun l v => idsIn 9 v l) l)
def reach (res : Tab) (vs : List SV) : List Nat := reachOn res vs []
/-- The same by others' numbers: a variable's content; a slot's. -/
def mapO (g : SV → Option SV) : List SV → Option (List SV)
  | [] => some []
  | v :: l => (g v).bind fun v' => (mapO g l).bind fun l' => some (v' :: l')
def renameT (f : Nat → Option Nat) : Nat → SV → Option SV
  | 0, _ => none
  | _ + 1, .val t x => some (.val t x)
  | _ + 1, .nilS => some .nilS
  | _ + 1, .row r => match f r with | some j => some (.row j) | none => none
  | d + 1, .strct l => match mapO (renameT f d) l with | some l' => some (.strct l') | none => none
  | _, _ => none
def rename (f : Nat → Option Nat) : Nat → SV → SV
  | 0, _ => .undef
  | _ + 1, .row r => match f r with | some j => .row j | none => .undef
  | _ + 1, .ptr r s p => match f r with | some j => .ptr j s p | none => .undef
  | _ + 1, .rptr r s i p => match f r with | some j => .rptr j s i p | none => .undef
  | _ + 1, .tail r i => match f r with | some j => .tail j i | none => .undef
  | d + 1, .fn g caps => .fn g (caps.map (rename f d))
  | d + 1, .tup vs => .tup (vs.map (rename f d))
  | d + 1, .strct l => match mapO (renameT f d) l with | some l' => .strct l' | none => .undef
  | _, v => v
def renTab (res : Tab) (f : Nat → Option Nat) : List Nat → Nat → Tab
  | [], _ => []
  | r :: l, j => match getR res r, hitB (f r) j with
    | some (.box t c), true => match renameT f 9 c with
      | some c' => (j, .box t c') :: renTab res f l (j + 1)
      | none => renTab res f l (j + 1)
    | some v, true => (j, v) :: renTab res f l (j + 1)
    | _, _ => renTab res f l (j + 1)
/-- What is handed on: plain values, pointers, rows that are given away. -/
def valArg (res : Tab) (own : Bool) (t : Option Ty) (v : SV) : Option (SV × List Nat) := match v with
  | .val s x => some (.val s x, [])
  | .ptr r s p => some (.ptr r s p, [])
  | .eptr s x => some (.eptr s x, [])
  | .rptr r s i p => some (.rptr r s i p, [])
  | .fn g caps => some (.fn g caps, [])
  | .undef => some (.undef, [])
  | .tup _ => none
  | .tail _ _ => none
  | v => match own, t with
    | true, _ => some (v, [])
    | false, some t => (toVal res 9 t v).bind fun x => some (.val t x, rowsIn 9 v)
    | false, none => none
def valAll (res : Tab) : List (Option Ty) → List Bool → List SV → Option (List SV × List Nat)
  | _, _, [] => some ([], [])
  | ts, os, v :: l => (valArg res (os.headD false) (ts.headD none) v).bind fun (v', fr) => (valAll res ts.tail os.tail l).bind fun (l', fr') => some (v' :: l', fr ++ fr')
/-- The types of what comes back. -/
def shTy : Sh → Option Ty
  | .val t => some t
  | .row e t _ => some (.slice e t)
  | .strct s => (go s).map .agg
  | _ => none
where
  go : Sh → Option Ty
  | .pair a b => (shTy a).bind fun t => (go b).map fun u => .pair t u
  | .unit => some .unit
  | _ => none
def shTys : Sh → List (Option Ty)
  | .pair a b => shTy a :: shTys b
  | _ => []
/-- What the variables hold behind a call; a row that was handed over is gone. -/
def backs (rb : Bool) : Tab → List SV → List (Option Ty) → Option (List (Option Res))
  | [], [], _ => some []
  | [], _ :: _, _ => none
  | (_, .box t _) :: l, vs, ts => match vs, ts with
    | v :: vs, some s :: ts => if s = t then (backs rb l vs ts).bind fun u => some (some (.box t v) :: u) else none
    | _, _ => none
  | (_, .row _ _ _ _) :: l, vs, ts => match rb with
    | true => match vs, ts with
      | .row _ :: vs, _ :: ts => (backs rb l vs ts).bind fun u => some (none :: u)
      | _, _ => none
    | false => (backs rb l vs ts).bind fun u => some (none :: u)
  | _ :: l, vs, ts => (backs rb l vs ts).bind fun u => some (none :: u)
/-- Which rows are those that were handed over (new number, place in the table). -/
def comes (rb : Bool) : Tab → List SV → List (Nat × Nat)
  | [], _ => []
  | (_, .box _ _) :: l, _ :: vs => comes rb l vs
  | (k, .row _ _ _ _) :: l, vs => match rb with
    | true => match vs with
      | .row m :: vs => (m, k) :: comes rb l vs
      | _ => []
    | false => comes rb l vs
  | (_, .old _ _ _) :: l, vs => comes rb l vs
  | _ :: _, _ => []
def getU : Up → Nat → Option Res → Option Res
  | [], _, x => x
  | (k, v) :: l, r, x => match Nat.beq k r with | true => getU l r v | false => getU l r x
def onceB : List Nat → Bool
  | [] => true
  | r :: l => !(hasN l r) && onceB l
/-- They stand under their old numbers again. -/
def moves (un : Up) (ids : List Nat) : List (Nat × Nat) → Up
  | [] => []
  | (m, k) :: l => match getU un m none, ids[k]? with
    | some x, some r => (m, none) :: (r, some x) :: moves un ids l
    | _, _ => moves un ids l
def retSV : List SV → SV
  | [v] => v
  | l => .tup l
/-- Does nothing of what was looked at stay with what comes back? -/
def cleanB : Sh → Bool
  | .val t => noSlice t
  | .row _ t fr => noSlice t && !fr
  | .unit => true
  | .pair a b => cleanB a && cleanB b
  | .strct s => cleanB s
  | .ptr t => noSlice t
def callKey (g key : Nat) (args : List SV) (res : Tab) (r0 : Nat) (K : SV → Up → Option R) : Option R :=
  match nth E.fns key with
  | none => none
  | some I => match Nat.beq I.g g with
   | false => none
   | true =>
    match valAll res (I.fn.params.toList.map fun T => nth E.ty T) I.own args with
    | none => none
    | some (args', fr) =>
      let ids := reach res args'
      let tab := renTab res (fun r => place r ids 0) ids 0
      match Nat.beq tab.length ids.length, Nat.ble ids.length r0, meets fr ids with
      | true, true, false => (call I (args'.map (rename (fun r => place r ids 0) 9)) tab).bind fun z =>
        match mkList I.sh z.1 r0 with
        | (vs, u, n) => match mkList I.bx z.2 n with
          | (bs, u', n') => match backs I.rb tab bs (shTys I.bx), Nat.ble n' (r0 + 64) && onceB ((comes I.rb tab bs).map (·.1) ++ (comes I.rb tab bs).filterMap fun p => ids[p.2]?) with
            | some ub, true => K (retSV vs) ((match cleanB I.sh && cleanB I.bx with | true => [] | false => freeze res fr) ++ (ids.zip ub ++ (u ++ u')) ++ moves (u ++ u') ids (comes I.rb tab bs))
            | _, _ => none
      | _, _, _ => none
def callFn (g : Nat) (args : List SV) (res : Tab) (r0 : Nat) (K : SV → Up → Option R) : Option R :=
  match nth E.sub g with
  | none => callKey E call g g args res r0 K
  | some s => (s.dec res args).bind fun b => if b = true then callKey E call g s.yes args res r0 K else callKey E call g s.no args res r0 K

/-- A record's nil slices become rows of the call's own. -/
def ground : Ty → SV → Nat → SV × Up × Nat
  | .slice e t, .nilS, n => (.row n, [(n, some (.row e t [] false))], n + 1)
  | .agg t, .strct l, n => match go t l n with
    | (l', u, m) => (.strct l', u, m)
  | _, v, n => (v, [], n)
where
  go : Ty → List SV → Nat → List SV × Up × Nat
  | .pair a b, v :: l, n => match ground a v n with
    | (v', u, m) => match go b l m with
      | (l', u', m') => (v' :: l', u ++ u', m')
  | _, l, n => (l, [], n)
def intOf : SV → Option (IntKind × Int)
  | .val (.int k) n => some (k, n)
  | _ => none
/-- A slice's elements, whoever holds them. -/
def listOf (res : Tab) (e : TypeId) (t : Ty) (v : SV) : Option (List t.den) := toVal res 1 (.slice e t) v

def binInt (op : BinOp) (k : IntKind) (a b : Int) (K : SV → Up → Option R) : Option R :=
  match op with
  | .add => K (.val (.int k) (k.wrap (a + b))) []
  | .sub => K (.val (.int k) (k.wrap (a - b))) []
  | .mul => K (.val (.int k) (k.wrap (a * b))) []
  | .quo => if b = 0 then none else K (.val (.int k) (k.wrap (a.tdiv b))) []
  | .rem => if b = 0 then none else K (.val (.int k) (a.tmod b)) []
  | .and | .or | .xor | .andNot => K (.val (.int k) (Go.bits op k a b)) []
  | .eql => K (.val .bool (a == b)) []
  | .neq => K (.val .bool (a != b)) []
  | .lss => K (.val .bool (decide (a < b))) []
  | .leq => K (.val .bool (decide (a ≤ b))) []
  | .gtr => K (.val .bool (decide (a > b))) []
  | .geq => K (.val .bool (decide (a ≥ b))) []
  | .shl => if b < 0 then none else K (.val (.int k) (k.wrap (a * 2 ^ min b.toNat k.bits))) []
  | .shr => if b < 0 then none else K (.val (.int k) (a.fdiv (2 ^ min b.toNat k.bits))) []
def binStr (op : BinOp) (a b : ByteArray) (K : SV → Up → Option R) : Option R :=
  match op with
  | .add => if a.size + b.size ≤ 9223372036854775807 then K (.val .str (a ++ b)) [] else none
  | .eql => K (.val .bool (a.toList == b.toList)) []
  | .neq => K (.val .bool (!(a.toList == b.toList))) []
  | .lss => K (.val .bool (Op.bytesLess a.toList b.toList)) []
  | .leq => K (.val .bool (Op.bytesLess a.toList b.toList || a.toList == b.toList)) []
  | .gtr => K (.val .bool (!(Op.bytesLess a.toList b.toList || a.toList == b.toList))) []
  | .geq => K (.val .bool (!Op.bytesLess a.toList b.toList)) []
  | _ => none
def binOp2 (op : BinOp) (T : TypeId) (x y : SV) (K : SV → Up → Option R) : Option R :=
  match x, y with
  | .val (.int k) a, .val (.int k') b => match op with
    | .shl | .shr => binInt op k a b K
    | _ => if k = k' then binInt op k a b K else none
  | .val .str a, .val .str b => binStr op a b K
  | .val .bool a, .val .bool b => match op, nth E.ty T with
    | .eql, some .bool => K (.val .bool (a == b)) []
    | .neq, some .bool => K (.val .bool (!(a == b))) []
    | _, _ => none
  | .val (.agg s) a, .val (.agg s') b => match nth E.eqs T with
    | some t => match cast? (t := .agg s) t a, cast? (t := .agg s') t b, op with
      | some a, some b, .eql => K (.val .bool (eqB t a b)) []
      | some a, some b, .neq => K (.val .bool (!(eqB t a b))) []
      | _, _, _ => none
    | none => none
  | _, _ => none
def cutStr (s : ByteArray) (lo hi : Option Int) (K : SV → Up → Option R) : Option R :=
  match lo, hi with
  | none, none => K (.val .str s) []
  | none, some h => if 0 ≤ h then (if h ≤ s.size then K (.val .str (s.extract 0 h.toNat)) [] else none) else none
  | some l, none => if 0 ≤ l then (if l ≤ s.size then K (.val .str (s.extract l.toNat s.size)) [] else none) else none
  | some l, some h => if 0 ≤ h then (if h ≤ s.size then (if 0 ≤ l then (if l ≤ h then K (.val .str (s.extract l.toNat h.toNat)) [] else none) else none) else none) else none
def cutList (e : TypeId) (t : Ty) (xs : List t.den) (lo hi : Option Int) (u : Up) (K : SV → Up → Option R) : Option R :=
  match lo, hi with
  | none, none => K (.val (.slice e t) xs) u
  | none, some h => if 0 ≤ h then (if h ≤ xs.length then K (.val (.slice e t) (xs.take h.toNat)) u else none) else none
  | some l, none => if 0 ≤ l then (if l ≤ xs.length then K (.val (.slice e t) (xs.drop l.toNat)) u else none) else none
  | some l, some h => if 0 ≤ h then (if h ≤ xs.length then (if 0 ≤ l then (if l ≤ h then K (.val (.slice e t) ((xs.take h.toNat).drop l.toNat)) u else none) else none) else none) else none
def optInt : Option SV → Option (Option Int)
  | none => some none
  | some v => (intOf v).bind fun (_, n) => some (some n)
def sliceSV (ty : Ty) (lo hi : Option SV) (x : SV) (res : Tab) (r0 : Nat) (K : SV → Up → Option R) : Option R :=
  match optInt lo, optInt hi, ty, x with
  | some l, some h, .str, .val .str s => cutStr s l h K
  | some none, some (some h), .slice e0 t0, .row r => match getR res r with
    | some (.row e t xs false) => if Ty.slice e t = .slice e0 t0 then (if 0 ≤ h then (if h ≤ xs.length then K (.row r0) [(r, none), (r0, some (.row e t (xs.take h.toNat) false))] else none) else none) else none
    | some (.row e t xs true) => if Ty.slice e t = .slice e0 t0 then cutList e t xs none (some h) [] K else none
    | some (.old e t xs) => if Ty.slice e t = .slice e0 t0 then cutList e t xs none (some h) [] K else none
    | _ => none
  | some l, some h, .slice e t, v => match listOf res e t v with
    | some xs => cutList e t xs l h (freeze res (rowsIn 9 v)) K
    | none => none
  | _, _, _, _ => none
def tailHere (E : Env) (T : TypeId) : Option Nat → Bool
  | some d => E.tails.any fun p => Nat.beq p.1 T && Nat.beq p.2 d
  | none => false
def tailSV (lo hi : Option Operand) (ty : Ty) (x : SV) (is : List SV) (res : Tab) (K : SV → Up → Option R) : Option R :=
  match lo, hi, ty, x with
  | some _, none, .slice e0 t0, .row r => match getR res r, is with
    | some (.row e t xs false), [.val (.int _) l] => if Ty.slice e t = .slice e0 t0 then (if 0 ≤ l then (if l < xs.length then K (.tail r l) [] else none) else none) else none
    | _, _ => none
  | _, _, _, _ => none
def buildList (res : Tab) (t : Ty) : List (Nat × SV) → List t.den → Option (List t.den)
  | [], l => some l
  | (i, v) :: ps, l => match Nat.blt i l.length with
    | true => (toVal res 9 t v).bind fun x => buildList res t ps (l.set i x)
    | false => none
def buildFields (res : Tab) : List Ty → List (Nat × SV) → List SV → Option (List SV)
  | _, [], l => some l
  | ts, (i, v) :: ps, l => match ts[i]? with
    | some t => match fits res 9 t v with | true => buildFields res ts ps (l.set i v) | false => none
    | none => none
def fieldTys : Ty → List Ty
  | .pair a b => a :: fieldTys b
  | _ => []
/-- A record all of whose fields are plain is a plain value. -/
def closeUp (t : Ty) (l : List SV) : Option SV := match l.all plainB with
  | true => (toPairs (toVal [] 9) t l).bind fun x => some (.val (.agg t) x)
  | false => some (.strct l)
def foldInt (f : Int → Int → Int) (k : IntKind) : List SV → Int → Option Int
  | [], n => some n
  | .val (.int k') m :: l, n => if k = k' then foldInt f k l (f n m) else none
  | _, _ => none
def lenSV (argTypes : Array TypeId) (v : SV) (res : Tab) (K : SV → Up → Option R) : Option R :=
  match argTypes[0]?.bind (nth E.ty), v with
  | some .str, .val .str s => K (.val (.int .i64) (s.size : Int)) []
  | some (.slice e t), v => match listOf res e t v with
    | some xs => K (.val (.int .i64) (xs.length : Int)) []
    | none => none
  | _, _ => none
def appendSV (argTypes : Array TypeId) (s x : SV) (res : Tab) (r0 : Nat) (K : SV → Up → Option R) : Option R :=
  match argTypes.toList, s with
  | [T, T'], .row r => match nth E.ty T, Nat.beq T T', getR res r with
    | some (.slice e t), true, some (.row e' t' xs fr) => match cast? (t := .slice e' t') (.slice e t) xs, toVal res 9 (.slice e t) x, hasN (rowsIn 9 x) r, nth E.by_ e with
      | some xs, some ys, false, some nb => if ((xs : List t.den).length + (ys : List t.den).length) * nb ≤ 140737488355328 then K (.row r0) (freeze res (rowsIn 9 x) ++ [(r, oldOf e t xs fr), (r0, some (.row e t ((xs : List t.den) ++ (ys : List t.den)) fr))]) else none
      | _, _, _, _ => none
    | _, _, _ => none
  | _, _ => none
def foldSV (f : Int → Int → Int) (v : SV) (l : List SV) (K : SV → Up → Option R) : Option R :=
  match v with
  | .val (.int k) n => match foldInt f k l n with | some m => K (.val (.int k) m) [] | none => none
  | _ => none
def clearSV (argTypes : Array TypeId) (v : SV) (res : Tab) (K : SV → Up → Option R) : Option R :=
  match argTypes[0]?.bind (nth E.ty), v with
  | some (.slice e t), .tail r i => match getR res r with
    | some (.row e' t' xs false) => if Ty.slice e' t' = .slice e t then K .undef [(r, some (.row e' t' (xs.take i.toNat ++ List.replicate (xs.length - i.toNat) t'.dflt) false))] else none
    | _ => none
  | _, _ => none
def builtin2 (b : Builtin) (argTypes : Array TypeId) (T : TypeId) (args : List SV) (res : Tab) (r0 : Nat) (K : SV → Up → Option R) : Option R :=
  match b with
  | .len => match args with | [v] => lenSV E argTypes v res K | _ => none
  | .append => match args with | [s, x] => appendSV E argTypes s x res r0 K | _ => none
  | .min => match args with | v :: l => foldSV (fun x y => if y < x then y else x) v l K | _ => none
  | .max => match args with | v :: l => foldSV (fun x y => if x < y then y else x) v l K | _ => none
  | .clear => match args with | [v] => clearSV E argTypes v res K | _ => none
  | _ => none

def core (o : Oper) (args : List SV) (res : Tab) (r0 : Nat) (K : SV → Up → Option R) : Option R :=
  match o.op, args with
  | .move _, [v] | .assign _, [v] => match v, nth E.ty o.type with
    | .nilS, some (.slice e t) => K (.row r0) [(r0, some (.row e t [] false))]
    | .strct l, some (.agg t) => match ground (.agg t) (.strct l) r0 with
      | (v', u, m) => match Nat.ble m (r0 + 64) with | true => K v' u | false => none
    | _, _ => K v []
  | .pick _ _ _, [c, a, b] => match c, a, b with
    | .val .bool x, .val .bool y, .val .bool z => K (.val .bool (if x = true then y else z)) []
    | .val .bool x, a, b => if x = true then K a [] else K b []
    | _, _, _ => none
  | .alloc T, _ => match nth E.ty T with
    | some t => match ground t (dfltSV t) (r0 + 1) with
      | (c, u, m) => match Nat.ble m (r0 + 64) with | true => K (.ptr r0 t []) (u ++ [(r0, some (.box t c))]) | false => none
    | none => none
  | .box T _, [v] => match nth E.ty T with
    | some t => match fits res 9 t v with | true => K (.ptr r0 t []) [(r0, some (.box t (spread v)))] | false => none
    | none => none
  | .build T ps, vs => match nth E.ty T with
    | some (.agg t) => match dfltSV (.agg t) with
      | .strct l => match buildFields res (fieldTys t) ((ps.toList.map (·.1)).zip vs) l with
        | some l => match closeUp t l with | some v => K v [] | none => none
        | none => none
      | _ => none
    | _ => none
  | .buildSlice T n ps, vs => match nth E.ty T with
    | some (.slice e t) => match buildList res t ((ps.toList.map (·.1)).zip vs) (List.replicate n t.dflt), Nat.ble (n * t.sz) 16777216 with
      | some xs, true => K (.row r0) (freeze res (vs.flatMap (rowsIn 9)) ++ [(r0, some (.row e t xs false))])
      | _, _ => none
    | _ => none
  | .load T _, [p] => match nth E.ty T, p with
    | some t, .ptr r s path => if s = t then (match getR res r with
      | some (.box _ c) => match svGetP path c with
        | some (.strct l) => match t with
          | .agg t' => match closeUp t' l with | some v => K v [] | none => none
          | _ => none
        | some v => K v []
        | none => none
      | _ => none) else none
    | some t, .eptr s x => if s = t then K (.val s x) [] else none
    | some t, .rptr r _ i path => match getR res r with
      | some (.row _ u xs _) => match getP path u (xs.getD i.toNat u.dflt) with
        | some (.val s y) => if s = t then K (.val s y) [] else none
        | _ => none
      | _ => none
    | _, _ => none
  | .store T _ _, [p, v] => match nth E.ty T, p with
    | some t, .ptr r s path => if s = t then (match getR res r with
      | some (.box bt c) => match fits res 9 t v, ground t v r0 with
        | true, (v', u, m) => match svSetP path c v', Nat.ble m (r0 + 64) with
          | some c', true => K .undef (u ++ [(r, some (.box bt c'))])
          | _, _ => none
        | false, _ => none
      | _ => none) else none
    | some t, .rptr r _ i path => match getR res r with
      | some (.row e u xs false) => match hasN (rowsIn 9 v) r, toVal res 9 t v with
        | false, some x => match putP path u (xs.getD i.toNat u.dflt) (fun s => cast? s x) with
          | some y => K .undef (freeze res (rowsIn 9 v) ++ [(r, some (.row e u (xs.set i.toNat y) false))])
          | none => none
        | _, _ => none
      | _ => none
    | _, _ => none
  | .nilCheck _, [p] => match p with
    | .ptr _ _ _ | .eptr _ _ | .rptr _ _ _ _ => K p []
    | _ => none
  | .binOp op T _ _ _, [x, y] => binOp2 E op T x y K
  | .unOp op _ _, [x] => match op, x with
    | .neg, .val (.int k) n => K (.val (.int k) (k.wrap (0 - n))) []
    | .not, .val .bool b => K (.val .bool (!b)) []
    | .xor, .val (.int k) n => K (.val (.int k) (Go.bits .xor k (if k.signed then -1 else k.max) n)) []
    | _, _ => none
  | .convert S D _, [x] => match nth E.ty S, nth E.ty D, x with
    | some _, some (.int k), .val (.int _) n => K (.val (.int k) (k.wrap n)) []
    | some _, some .str, .val .str s => K (.val .str s) []
    | some (.slice e (.int .u8)), some .str, v => match listOf res e (.int .u8) v with
      | some xs => K (.val .str (strOfNums xs)) []
      | none => none
    | _, _, _ => none
  | .makeFunc (.func g) first _, vs => match first.size with
    | 0 => K (.fn g vs) []
    | _ => none
  | .makeSlice T l c, [x, _] => match nth E.ty T, sameOp l c, x with
    | some (.slice e t), true, .val (.int _) n => match nth E.by_ e with
      | some nb => if 0 ≤ n then (if n.toNat * nb ≤ 140737488355328 then K (.row r0) [(r0, some (.row e t (List.replicate n.toNat t.dflt) false))] else none) else none
      | none => none
    | _, _, _ => none
  | .slice T _ lo hi mx, x :: is => match nth E.ty T, mx with
    | some ty, none => match tailHere E T o.dst with
      | true => tailSV lo hi ty x is res K
      | false => sliceSV ty (match lo with | some _ => is.head? | none => none) (match hi with | some _ => is.getLast? | none => none) x res r0 K
    | _, _ => none
  | .fieldAddr T _ f, [p] => match nth E.ty T with
    | some (.agg t) => match p with
      | .ptr r s path => match offF t f with
        | some (_, s') => if s = .agg t then K (.ptr r s' (path ++ [f])) [] else none
        | none => none
      | .eptr s x => match cast? (.agg t) x with
        | some x => match getF t x f with
          | some (.val s y) => K (.eptr s y) []
          | _ => none
        | none => none
      | .rptr r s i path => match offF t f with
        | some (_, s') => if s = .agg t then K (.rptr r s' i (path ++ [f])) [] else none
        | none => none
      | _ => none
    | _ => none
  | .field T _ f, [x] => match nth E.ty T with
    | some t => match fits res 9 t x with
      | true => match svGet x f with
        | some v => K v []
        | none => none
      | false => none
    | none => none
  | .indexAddr T _ _, [x, i] => match nth E.ty T, i with
    | some (.slice e t), .val (.int _) n => match x with
      | .row r => match getR res r with
        | some (.row e' u xs fr) => if Ty.slice e' u = .slice e t then (match fr with
          | false => if 0 ≤ n then (if n < xs.length then K (.rptr r t n []) [] else none) else none
          | true => if 0 ≤ n then (if n < xs.length then K (.eptr u (xs.getD n.toNat u.dflt)) [] else none) else none) else none
        | some (.old e' u xs) => if Ty.slice e' u = .slice e t then (if 0 ≤ n then (if n < xs.length then K (.eptr u (xs.getD n.toNat u.dflt)) [] else none) else none) else none
        | _ => none
      | .val s xs => match cast? (.slice e t) xs with
        | some xs => if 0 ≤ n then (if n < (xs : List t.den).length then K (.eptr t (xs.getD n.toNat t.dflt)) [] else none) else none
        | none => none
      | _ => none
    | _, _ => none
  | .index T _ _, [x, i] => match nth E.ty T, x, i with
    | some .str, .val .str s, .val (.int _) n => if 0 ≤ n then (if n < s.size then K (.val (.int .u8) (bt s n)) [] else none) else none
    | _, _, _ => none
  | .extract _ i, [x] => match x with
    | .tup l => match l[i]? with | some v => K v [] | none => none
    | _ => none
  | .call c, vs => match c.callee, vs with
    | .builtin b, vs => builtin2 E b c.argTypes o.type vs res r0 K
    | .value _, .fn g caps :: as => callFn E call g (as ++ caps) res r0 K
    | _, _ => none
  | _, _ => none

/-! ### 5. The operations of a region, in the text's order -/
def constSV : Value → SV
  | .int k n => .val (.int k) n
  | .bool b => .val .bool b
  | .string s => .val .str s
  | .slice none 0 0 => .nilS
  | _ => .undef
def ev (l : List SV) : Operand → SV
  | .tmp t => slot l t
  | .const v => constSV v
  | .func f => .fn f []
  | .global _ => .undef
def opnds : Op → List Operand
  | .alloc _ => []
  | .move x | .assign x | .box _ x | .load _ x | .nilCheck x | .unOp _ _ x | .convert _ _ x | .fieldAddr _ x _ | .field _ x _ | .extract x _ => [x]
  | .pick c a b => [c, a, b]
  | .build _ ps | .buildSlice _ _ ps => ps.toList.map (·.2)
  | .store _ a v | .binOp _ _ a v _ | .makeSlice _ a v | .indexAddr _ a v | .index _ a v => [a, v]
  | .makeFunc _ first captured => first.toList ++ captured.toList
  | .slice _ x l h m => x :: (l.toList ++ h.toList ++ m.toList)
  | .call c => (match c.callee with | .value f => [f] | _ => []) ++ c.args.toList
  | _ => []
def putS (σ : St) (d : Option Nat) (v : SV) (u : Up) : St :=
  { σ with slots := match d with | some d => setSlot σ.slots d v | none => σ.slots, res := applyU σ.res u }
/-- The part of the table that some values lead to. -/
def restrict (res : Tab) : List Nat → Tab
  | [] => []
  | r :: l => match getR res r with
    | some v => (r, v) :: restrict res l
    | none => restrict res l
/-- What an operation has looked at, and what it has turned. -/
structure Log where
  i : Nat
  see : List Nat
  turn : List Nat
/-- Does it look at nothing but its operands? -/
def blind : Op → Bool
  | .move _ | .assign _ | .nilCheck _ | .unOp _ _ _ | .fieldAddr _ _ _ | .extract _ _ | .makeFunc _ _ _ | .index _ _ _ => true
  | _ => false
def seeOf (o : Oper) (res : Tab) (vs : List SV) : List Nat := match blind o.op with | true => [] | false => reach res vs
def tmpsOf (o : Oper) : List Nat := (opnds o.op).filterMap fun | .tmp t => some t | _ => none
def namesOf (all : Array Oper) (o : Oper) : List Nat := tmpsOf o ++ (match o.guard with | some (j, _) => (match all[j]?.bind (·.dst) with | some d => [d] | none => []) | none => [])
def clash (all : Array Oper) (a b : Log) : Bool := match all[a.i]?, all[b.i]? with
  | some x, some y =>
    let xd := x.dst.toList; let yd := y.dst.toList
    meets xd (yd ++ namesOf all y) || meets yd (namesOf all x) || meets a.turn (b.see ++ b.turn) || meets b.turn a.see
  | _, _ => true
/-- Whatever clashes is in order by an edge. -/
def ordOk (all : Array Oper) (bf : Array Nat) : List Log → Bool
  | [] => true
  | b :: l => (l.all fun a => !(clash all a b) || (bf.getD b.i 0).testBit a.i) && ordOk all bf l   -- the later ones stand first
/-- Edges lead back. -/
def edgesOk (all : Array Oper) : Bool := (List.range all.size).all fun i => match all[i]? with
  | some o => o.after.all fun e => !Region.binds .any e || Nat.blt e.on i
  | none => true
def smallU (r0 : Nat) (see : List Nat) (u : Up) : Bool := u.all fun (r, _) => hasN see r || (Nat.ble r0 r && Nat.blt r (r0 + 64))
def runOps (all : Array Oper) (draw : Bool) (base : Nat) : List (Nat × Oper) → List Log → St → (St → Option R) → Option R
  | [], g, σ, K => match draw with
    | false => K σ
    | true => match ordOk all (Region.before all) g, edgesOk all with | true, true => K σ | _, _ => none
  | (i, o) :: l, g, σ, K =>
    let act := fun (σ : St) (b : Bool) => match b with
      | true =>
        let vs := (opnds o.op).map (ev σ.slots)
        let ids := seeOf o σ.res vs
        core E call o vs (restrict σ.res ids) (base + 64 * i) fun v u => match smallU (base + 64 * i) ids u with
          | true => runOps all draw base l ({ i, see := ids, turn := u.map (·.1) } :: g) (putS σ o.dst v u) K
          | false => none
      | false => runOps all draw base l ({ i, see := [], turn := [] } :: g) (putS σ o.dst (.tup []) []) K
    match o.guard with
    | none => act σ true
    | some (j, want) => match all[j]?.bind (·.dst) with
        | some d => match slot σ.slots d with
          | .val .bool x => if x = true then act { σ with slots := setSlot σ.slots d (.val .bool true) } (true == want) else act { σ with slots := setSlot σ.slots d (.val .bool false) } (false == want)
          | .tup [] => act σ false
          | _ => none
        | none => none
end

/-! ### 6. A function: its code with what stands behind it; one round of k a step -/
inductive Fr where
  | seq (b : Code)
  | block (id : Nat)
  | loop (b : Code)
def keep (live : List Nat) : Nat → List SV → List SV
  | _, [] => []
  | n, v :: l => (match place n live 0 with | some _ => v | none => .undef) :: keep live (n + 1) l
/-- The state with the wanted slots alone, what they lead to numbered anew. -/
def norm (live : List Nat) (σ : St) : St :=
  let sl := keep live 0 σ.slots
  let ids := reachOn σ.res sl (upTo σ.n0)
  let f := fun r => place r ids 0
  { slots := sl.map (rename f 9), res := renTab σ.res f ids 0, nx := ids.length, n0 := σ.n0 }

/-- The rows that come back as rows. -/
def rowsOut1 : Sh → SV → List Nat
  | .row _ _ _, .row r => [r]
  | .ptr _, .ptr r _ _ => [r]
  | .strct s, .strct l => go s l
  | _, _ => []
where
  go : Sh → List SV → List Nat
  | .pair a b, v :: l => rowsOut1 a v ++ go b l
  | _, _ => []
def rowsOut (s : Sh) (l : List SV) : List Nat := rowsOut1.go s l
abbrev RunT := (I : FnI) → {R : Type} → (St → Option R) → Code → List Fr → St → Option R
/-- What the variables hold that were handed on. -/
def boxes (rb : Bool) (res : Tab) : Tab → Option (List SV)
  | [] => some []
  | (j, .box t _) :: l => match getR res j with
    | some (.box t' c) => if t' = t then (boxes rb res l).bind fun cs => some (c :: cs) else none
    | _ => none
  | (j, .row _ _ _ _) :: l => match rb with
    | true => (boxes rb res l).bind fun cs => some (.row j :: cs)
    | false => boxes rb res l
  | _ :: l => boxes rb res l
/-- The rows that come back as parts of plain values. -/
def rowsVal1 : Sh → SV → List Nat
  | .val _, v => rowsIn 9 v
  | .strct s, .strct l => go s l
  | _, _ => []
where
  go : Sh → List SV → List Nat
  | .pair a b, v :: l => rowsVal1 a v ++ go b l
  | _, _ => []
/-- What a function gives. -/
def given (E : Env) (σ : St) : ResultVar → SV
  | .tmp t => slot σ.slots t
  | .cell a T => match slot σ.slots a, nth E.ty T with
    | .ptr r s path, some t => match getR σ.res r with
      | some (.box _ c) => match svGetP path c with | some v => if s = t then v else .undef | none => .undef
      | _ => .undef
    | _, _ => .undef
/-- A result by its shape: one that is let fall; a variable of the call's own; others. -/
def ofTop (n0 : Nat) (res : Tab) : (s : Sh) → SV → Option s.den
  | .unit, v => match v with
    | .undef => none
    | _ => some ()
  | .ptr t, v => match v with
    | .ptr r s' [] => match Nat.ble n0 r, getR res r with
      | true, some (.box t' c) => if s' = t then (if t' = t then toVal [] 9 t c else none) else none
      | _, _ => none
    | _ => none
  | s, v => ofSV res s v
def ofTops (n0 : Nat) (res : Tab) : (s : Sh) → List SV → Option s.den
  | .pair a b, v :: l => (ofTop n0 res a v).bind fun x => (ofTops n0 res b l).bind fun y => some (x, y)
  | .unit, [] => some ()
  | _, _ => none
/-- What comes back to the caller. -/
def fin (E : Env) (I : FnI) (tab : Tab) (σ : St) : Option (I.sh.den × I.bx.den) :=
  let vs := I.fn.results.toList.map (given E σ)
  (ofTops tab.length σ.res I.sh vs).bind fun x => (boxes I.rb σ.res tab).bind fun cs => (ofSV.go σ.res I.bx cs).bind fun y =>
    match onceB (rowsOut I.sh vs ++ rowsOut I.bx cs), meets (rowsOut I.sh vs ++ rowsOut I.bx cs) (rowsVal1.go I.sh vs ++ rowsVal1.go I.bx cs) with
    | true, false => some (x, y)
    | _, _ => none
def bodyOf (f : Func) : Code := match f.body with | some c => c | none => .refuse ""
/-- The first state of a call. -/
def start (I : FnI) (args : List SV) (tab : Tab) : St :=
  { slots := args ++ List.replicate (I.fn.ntmps - args.length) .undef, res := tab, nx := tab.length, n0 := tab.length }
def callOf (E : Env) (rec : RunT) (I : FnI) (args : List SV) (tab : Tab) : Option (I.sh.den × I.bx.den) :=
  match I.prim with
  | some f => f args tab
  | none => rec I (fin E I tab) (bodyOf I.fn) [] (start I args tab)
def leave (I : FnI) (id : Nat) : List Fr → Option (List Fr)
  | [] => none
  | .block j :: S => match Nat.beq j id with | true => some S | false => leave I id S
  | _ :: S => leave I id S
def pop (rec : RunT) (I : FnI) {R : Type} (K : St → Option R) (S : List Fr) (σ : St) : Option R :=
  match S with
  | [] => K σ
  | .seq b :: S => rec I K b S σ
  | .block _ :: S => rec I K .skip S σ
  | .loop b :: S => rec I K (.loop b) S σ
def step (E : Env) (rec : RunT) : RunT := fun I _ K c S σ => match c with
  | .skip => pop rec I K S σ
  | .region id ops draw =>
    let σ := match nth I.live id with | some l => norm l σ | none => σ
    runOps { E with sub := I.sub } (callOf E rec) ops draw σ.nx ((List.range ops.size).zip ops.toList) [] σ fun σ' => pop rec I K S { σ' with nx := σ.nx + 64 * ops.size }
  | .seq a b => rec I K a (.seq b :: S) σ
  | .cond c a b => match ev σ.slots c with
    | .val .bool x => if x = true then rec I K a S σ else rec I K b S σ
    | _ => none
  | .block id b => rec I K b (.block id :: S) σ
  | .loop b => rec I K b (.loop b :: S) σ
  | .exit id => match leave I id S with | some S' => rec I K .skip S' σ | none => none
  | .ret => K σ
  | _ => none
def run (E : Env) (k : Nat) : RunT := Nat.rec (fun _ _ _ _ _ _ => none) (fun _ rec => step E rec) k
def call (E : Env) (k : Nat) (I : FnI) (args : List SV) (tab : Tab) : Option (I.sh.den × I.bx.den) := callOf E (run E k) I args tab
end Go.Proofs.Ytcfnhfbaakflgaa.Abs
