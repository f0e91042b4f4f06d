/- A reader of the model's code over plain values: it says what a function computes, with no memory in sight. What it says is shown to hold of the model in the texts behind it. -/
import Derived.Calls
import Derived.KernelRfl
import Derived.Laws.BytesArg
import Derived.Laws.AppendOwn
import Derived.Laws.OwnMore
import Derived.Below
import Derived.Tactics
import Derived.WalkKit
import Derived.WideLaws
import Derived.WalkLawsBesides
import Derived.Laws.BytesString
import Derived.Laws.Small
import Derived.Laws.StructEq
import Derived.Laws.Strings
namespace Go.Proofs.YtnodjiikdgmeaaaGreatDoor.Abs
set_option linter.unusedVariables false
open Go
def bt (s:ByteArray) (i:Int):Int:=if h:i.toNat < s.size then((s[i.toNat]'h).toNat:Int) else 0
inductive Ty where
 | int (k:IntKind)
 | bool
 | str
 | unit
 | pair (a b:Ty)
 | agg (t:Ty)
 | slice (e:TypeId) (t:Ty)
 | err
 | fn
 | pt
 deriving DecidableEq
@[reducible] def Ty.den:Ty→Type
 | .int _=>Int
 | .bool=>Bool
 | .str=>ByteArray
 | .unit=>Unit
 | .pair a b=>a.den×b.den
 | .agg t=>t.den
 | .slice _ t=>List t.den
 | .err=>Bool
 | .fn=>Unit
 | .pt=>Unit
def Ty.dflt:(t:Ty)→t.den
 | .int _=>(0:Int)
 | .bool=>false
 | .str=>(⟨#[]⟩:ByteArray)
 | .unit=>()
 | .pair a b=>(a.dflt,b.dflt)
 | .agg t=>t.dflt
 | .slice _ _=>[]
 | .err=>true
 | .fn=>()
 | .pt=>()
def Ty.sz:Ty→Nat
 | .unit=>0
 | .pair a b=>a.sz+b.sz
 | .agg t=>t.sz
 | _=>1
def kP? {t:Ty} (s:Ty) (x:t.den):Option s.den:=if h:t=s then some (h ▸ x) else none
inductive SV where
 | undef
 | nilS
 | val (t:Ty) (x:t.den)
 | row (r:Nat)
 | ptr (r:Nat) (s:Ty) (path:List Nat)
 | eptr (t:Ty) (x:t.den)
 | rptr (r:Nat) (s:Ty) (i:Int) (path:List Nat)
 | tail (r:Nat) (i:Int)
 | fn (g:Nat) (caps:List SV)
 | tup (l:List SV)
 | strct (l:List SV)
inductive aY where
 | box (t:Ty) (c:SV)
 | row (e:TypeId) (t:Ty) (xs:List t.den) (fr:Bool)
 | old (e:TypeId) (t:Ty) (xs:List t.den)
 | gone (e:TypeId) (t:Ty) (n:Nat)
 | keepF (g:Nat) (caps:List SV)
 | rowP (e:TypeId) (l:List SV)
abbrev aH:=List (Nat×aY)
structure St where
 slots:List SV
 res:aH
 nx:Nat
 n0:Nat
def gZ (l:List SV):Nat→SV
 | 0=>match l with | x :: _=>x | [] => .undef
 | n+1=>match l with | _ :: r=>gZ r n | [] => .undef
def dA:List SV→Nat→SV→List SV
 | [],_,_=>[]
 | _ :: r,0,v=>v :: r
 | x :: r,n+1,v=>x :: dA r n v
def az:aH→Nat→Option aY
 | [],_=>none
 | (k,v) :: l,r=>match Nat.beq k r with | true=>some v | false=>az l r
def Bq:aH→Nat→aH
 | [],_=>[]
 | (k,v) :: l,r=>match Nat.beq k r with | true=>Bq l r | false=>(k,v) :: Bq l r
def Qq (l:aH) (r:Nat) (v:aY):aH:=(r,v) :: Bq l r
def dv:Ty→Nat→Option (Nat×Ty)
 | .pair a _,0=>some (0,a)
 | .pair a b,n+1=>(dv b n).map fun p=>(a.sz+p.1,p.2)
 | _,_=>none
def fC:Ty→List Nat→Option (Nat×Ty)
 | t,[]=>some (0,t)
 | .agg t,f :: p=>(dv t f).bind fun q=>(fC q.2 p).map fun q'=>(q.1+q'.1,q'.2)
 | _,_ :: _=>none
def oL:(t:Ty)→t.den→Nat→Option SV
 | .pair a _,x,0=>some (.val a x.1)
 | .pair _ b,x,n+1=>oL b x.2 n
 | _,_,_=>none
def fieldsOf:(t:Ty)→t.den→List SV
 | .pair a b,x => .val a x.1 :: fieldsOf b x.2
 | _,_=>[]
def hZ:SV→SV
 | .val (.agg t) x => .strct (fieldsOf t x)
 | v=>v
def zq:SV→Nat→Option SV
 | .val (.agg t) x,f=>oL t x f
 | .strct l,f=>l[f]?
 | _,_=>none
def xF:List Nat→SV→Option SV
 | [],v=>some v
 | f :: p,v=>(zq v f).bind (xF p)
def FO:List Nat→SV→SV→Option SV
 | [],_,u=>some (hZ u)
 | f :: p,v,u=>match hZ v with
  | .strct l=>(l[f]?).bind fun z=>(FO p z u).bind fun z'=>some (.strct (l.set f z'))
  | _=>none
def pC:List Nat→(t:Ty)→t.den→Option SV
 | [],t,x=>some (.val t x)
 | f :: p,.agg t,x=>match oL t x f with
  | some (.val s y)=>pC p s y
  | _=>none
 | _ :: _,_,_=>none
def qZ:(t:Ty)→t.den→Nat→((s:Ty)→s.den→Option s.den)→Option t.den
 | .pair a _,x,0,g=>(g a x.1).bind fun y=>some (y,x.2)
 | .pair _ b,x,n+1,g=>(qZ b x.2 n g).bind fun y=>some (x.1,y)
 | _,_,_,_=>none
def uG:List Nat→(t:Ty)→t.den→((s:Ty)→Option s.den)→Option t.den
 | [],t,_,u=>u t
 | f :: p,.agg t,x,u=>qZ t x f fun s y=>uG p s y u
 | _ :: _,_,_,_=>none
def ur (g:(t:Ty)→SV→Option t.den):(t:Ty)→List SV→Option t.den
 | .pair a b,x :: l=>(g a x).bind fun u=>(ur g b l).bind fun v=>some (u,v)
 | .unit,[]=>some ()
 | _,_=>none
def de (res:aH):Nat→(t:Ty)→SV→Option t.den
 | 0,_,_=>none
 | _+1,t,.val s x=>kP? t x
 | _+1,.slice _ _,.nilS=>some []
 | _+1,t,.row r=>match az res r with
  | some (.row e s xs _)=>kP? (t := .slice e s) t xs
  | some (.old e s xs)=>kP? (t := .slice e s) t xs
  | _=>none
 | d+1,.agg t,.strct l=>ur (de res d) t l
 | _,_,_=>none
def dw:Nat→SV→List Nat
 | 0,_=>[]
 | _+1,.row r=>[r]
 | d+1,.strct l=>l.flatMap (dw d)
 | _,_=>[]
inductive Sh where
 | val (t:Ty)
 | row (e:TypeId) (t:Ty) (fr:Bool)
 | unit
 | pair (a b:Sh)
 | strct (s:Sh)
 | ptr (t:Ty)
@[reducible] def Sh.den:Sh→Type
 | .val t=>t.den
 | .row _ t _=>List t.den
 | .unit=>Unit
 | .pair a b=>a.den×b.den
 | .strct s=>s.den
 | .ptr t=>t.den
structure Zg where
 yes:Nat
 no:Nat
 dec:aH→List SV→Option Bool
structure an where
 g:Nat
 fn:Func
 sh:Sh
 bx:Sh
 own:List Bool
 live:List (Nat×List Nat)
 rb:Bool:=false
 prim:Option (List SV→aH→Option (sh.den×bx.den)):=none
 sub:List (Nat×Zg):=[]
structure cO where
 ty:List (Nat×Ty)
 by_:List (Nat×Nat)
 fns:List (Nat×an)
 eqs:List (Nat×Ty):=[]
 tails:List (Nat×Nat):=[]
 cuts:List (Nat×Nat):=[]
 sub:List (Nat×Zg):=[]
def dq {α:Type}:List (Nat×α)→Nat→Option α
 | [],_=>none
 | (k,v) :: l,r=>match Nat.beq k r with | true=>some v | false=>dq l r
abbrev Up:=List (Nat×Option aY)
def xG:aH→Up→aH
 | res,[]=>res
 | res,(r,some v) :: u=>xG (Qq res r v) u
 | res,(r,none) :: u=>xG (Bq res r) u
def cd (res:aH) (l:List Nat):Up:=l.filterMap fun r=>match az res r with
 | some (.row e t xs false)=>some (r,some (.row e t xs true))
 | _=>none
def KN (e:TypeId) (t:Ty) (xs:List t.den):Bool→Option aY
 | true=>some (.old e t xs)
 | false=>none
def X1:SV→Bool
 | .val _ _=>true
 | _=>false
def Qr:SV→Bool
 | .undef | .nilS | .val _ _ | .row _ | .ptr _ _ _=>true
 | _=>false
def km:Ty→SV
 | .slice _ _ => .nilS
 | .agg t => .strct (go t)
 | t => .val t t.dflt
where
 go:Ty→List SV
 | .pair a b=>km a :: go b
 | _=>[]
def gl (res:aH):Nat→Ty→SV→Bool
 | 0,_,_=>false
 | _+1,t,.val s _=>decide (s=t)
 | _+1,.slice _ _,.nilS=>true
 | _+1,t,.row r=>match az res r with
  | some (.row e s _ _)=>decide (Ty.slice e s=t)
  | some (.old e s _)=>decide (Ty.slice e s=t)
  | _=>false
 | d+1,.agg t,.strct l=>go (gl res d) t l
 | _,_,_=>false
where
 go (g:Ty→SV→Bool):Ty→List SV→Bool
 | .pair a b,x :: l=>g a x && go g b l
 | .unit,[]=>true
 | _,_=>false
def bv:(t:Ty)→t.den→t.den→Bool
 | .int _,x,y=>(x:Int) == y
 | .bool,x,y=>(x:Bool) == y
 | .str,x,y=>(x:ByteArray) == y
 | .unit,_,_=>true
 | .pair a b,x,y=>bv a x.1 y.1 && bv b x.2 y.2
 | .agg t,x,y=>bv t x y
 | .slice _ _,_,_=>false
 | .err,_,_=>false
 | .fn,_,_=>false
 | .pt,_,_=>false
def dB:Ty→Bool
 | .pair a b=>dB a && dB b
 | .agg t=>dB t
 | .slice _ _=>false
 | .err=>false
 | .fn=>false
 | .pt=>false
 | _=>true
def aD:(s:Sh)→s.den→Nat→SV×Up×Nat
 | .val t,x,n=>(.val t x,[],n)
 | .row e t fr,xs,n=>(.row n,[(n,some (.row e t xs fr))],n+1)
 | .unit,_,n=>(.undef,[],n)
 | .strct s,x,n=>let (l,u,m):=go s x n; (.strct l,u,m)
 | .pair _ _,_,n=>(.undef,[],n)
 | .ptr t,x,n=>(.ptr n t [],[(n,some (.box t (hZ (.val t x))))],n+1)
where
 go:(s:Sh)→s.den→Nat→List SV×Up×Nat
 | .pair a b,x,n =>
  let (v,u,m):=aD a x.1 n
  let (l,u',m'):=go b x.2 m
  (v :: l,u++u',m')
 | _,_,n=>([],[],n)
def bU (s:Sh) (x:s.den) (n:Nat):List SV×Up×Nat:=aD.go s x n
def gm (res:aH):(s:Sh)→SV→Option s.den
 | .val t,v=>de res 9 t v
 | .row e t fr,.row r=>match az res r with
  | some (.row e' s xs fr')=>match (fr == fr') with
   | true=>kP? (t := .slice e' s) (.slice e t) xs
   | false=>none
  | _=>none
 | .strct s,.strct l=>go s l
 | _,_=>none
where
 go:(s:Sh)→List SV→Option s.den
 | .pair a b,v :: l=>(gm res a v).bind fun x=>(go b l).bind fun y=>some (x,y)
 | .unit,[]=>some ()
 | _,_=>none
section
variable {R:Type} (E:cO) (call:(I:an)→List SV→aH→Option (I.sh.den×I.bx.den))
def Br:Operand→Operand→Bool
 | .tmp a,.tmp b=>Nat.beq a b
 | .const (.int _ a),.const (.int _ b)=>decide (a=b)
 | _,_=>false
def dX (i:Nat):List Nat→Nat→Option Nat
 | [],_=>none
 | x :: l,n=>match Nat.beq x i with | true=>some n | false=>dX i l (n+1)
def zr (l:List Nat) (n:Nat):Bool:=match dX n l 0 with | some _=>true | none=>false
def kQ (l m:List Nat):Bool:=l.any (zr m)
def UY (o:Option Nat) (j:Nat):Bool:=match o with | some i=>Nat.beq i j | none=>false
def CW (r:Nat) (l:List Nat):List Nat:=match dX r l 0 with
 | some _=>l
 | none=>l++[r]
def rO:Nat→SV→List Nat→List Nat
 | 0,_,l=>l
 | _+1,.row r,l=>CW r l
 | _+1,.ptr r _ _,l=>CW r l
 | _+1,.rptr r _ _ _,l=>CW r l
 | _+1,.tail r _,l=>CW r l
 | d+1,.fn _ caps,l=>caps.foldl (fun l v=>rO d v l) l
 | d+1,.tup vs,l=>vs.foldl (fun l v=>rO d v l) l
 | d+1,.strct vs,l=>vs.foldl (fun l v=>rO d v l) l
 | _,_,l=>l
def uH (res:aH):Nat→Nat→List Nat→List Nat
 | 0,_,l=>l
 | d+1,j,l=>match l[j]? with
  | none=>l
  | some r=>match az res r with
   | some (.box _ c)=>uH res d (j+1) (rO 9 c l)
   | some (.keepF _ caps)=>uH res d (j+1) (caps.foldl (fun l v=>rO 1 v l) l)
   | some (.rowP _ caps)=>uH res d (j+1) (caps.foldl (fun l v=>rO 1 v l) l)
   | _=>uH res d (j+1) l
def pD:Nat→List Nat
 | 0=>[]
 | n+1=>pD n++[n]
def lB (res:aH) (vs:List SV) (l:List Nat):List Nat:=uH res 40 0 (vs.foldl (fun l v=>rO 9 v l) l)
def cS (res:aH) (vs:List SV):List Nat:=lB res vs []
def K6 (g:SV→Option SV):List SV→Option (List SV)
 | []=>some []
 | v :: l=>(g v).bind fun v'=>(K6 g l).bind fun l'=>some (v' :: l')
def Bs (f:Nat→Option Nat):SV→SV
 | .val t x => .val t x
 | .nilS => .nilS
 | .row r=>match f r with | some j => .row j | none => .undef
 | .ptr r s p=>match f r with | some j => .ptr j s p | none => .undef
 | _ => .undef
def pg (f:Nat→Option Nat):Nat→SV→Option SV
 | 0,_=>none
 | _+1,.val t x=>some (.val t x)
 | _+1,.nilS=>some .nilS
 | _+1,.row r=>match f r with | some j=>some (.row j) | none=>none
 | d+1,.strct l=>match K6 (pg f d) l with | some l'=>some (.strct l') | none=>none
 | _,_=>none
def nX (f:Nat→Option Nat):Nat→SV→SV
 | 0,_ => .undef
 | _+1,.row r=>match f r with | some j => .row j | none => .undef
 | _+1,.ptr r s p=>match f r with | some j => .ptr j s p | none => .undef
 | _+1,.rptr r s i p=>match f r with | some j => .rptr j s i p | none => .undef
 | _+1,.tail r i=>match f r with | some j => .tail j i | none => .undef
 | d+1,.fn g caps => .fn g (caps.map (nX f d))
 | d+1,.tup vs => .tup (vs.map (nX f d))
 | d+1,.strct l=>match K6 (pg f d) l with | some l' => .strct l' | none => .undef
 | _,v=>v
def c7 (res:aH) (f:Nat→Option Nat):List Nat→Nat→aH
 | [],_=>[]
 | r :: l,j=>match az res r,UY (f r) j with
  | some (.box t c),true=>match pg f 9 c with
   | some c'=>(j,.box t c') :: c7 res f l (j+1)
   | none=>c7 res f l (j+1)
  | some (.keepF g caps),true=>(j,.keepF g (caps.map (Bs f))) :: c7 res f l (j+1)
  | some (.rowP g caps),true=>(j,.rowP g (caps.map (Bs f))) :: c7 res f l (j+1)
  | some (.gone _ _ _),true=>c7 res f l (j+1)
  | some v,true=>(j,v) :: c7 res f l (j+1)
  | _,_=>c7 res f l (j+1)
def SF (res:aH) (own:Bool) (t:Option Ty) (v:SV):Option (SV×List Nat):=match v with
 | .val s x=>some (.val s x,[])
 | .ptr r s p=>some (.ptr r s p,[])
 | .eptr s x=>some (.eptr s x,[])
 | .rptr r s i p=>some (.rptr r s i p,[])
 | .fn g caps=>some (.fn g caps,[])
 | .undef=>some (.undef,[])
 | .tup _=>none
 | .tail _ _=>none
 | v=>match own,t with
  | true,_=>some (v,[])
  | false,some t=>(de res 9 t v).bind fun x=>some (.val t x,dw 9 v)
  | false,none=>none
def uI (res:aH):List (Option Ty)→List Bool→List SV→Option (List SV×List Nat)
 | _,_,[]=>some ([],[])
 | ts,os,v :: l=>(SF res (os.headD false) (ts.headD none) v).bind fun(v',fr)=>(uI res ts.tail os.tail l).bind fun(l',fr')=>some (v' :: l',fr++fr')
def zt:Sh→Option Ty
 | .val t=>some t
 | .row e t _=>some (.slice e t)
 | .strct s=>(go s).map .agg
 | _=>none
where
 go:Sh→Option Ty
 | .pair a b=>(zt a).bind fun t=>(go b).map fun u => .pair t u
 | .unit=>some .unit
 | _=>none
def rP:Sh→List (Option Ty)
 | .pair a b=>zt a :: rP b
 | _=>[]
def cH (rb:Bool):aH→List SV→List (Option Ty)→Option (List (Option aY))
 | [],[],_=>some []
 | [],_ :: _,_=>none
 | (_,.box t _) :: l,vs,ts=>match vs,ts with
  | v :: vs,some s :: ts=>if s=t then(cH rb l vs ts).bind fun u=>some (some (.box t v) :: u) else none
  | _,_=>none
 | (_,.row _ _ _ _) :: l,vs,ts=>match rb with
  | true=>match vs,ts with
   | .row _ :: vs,_ :: ts=>(cH rb l vs ts).bind fun u=>some (none :: u)
   | _,_=>none
  | false=>(cH rb l vs ts).bind fun u=>some (none :: u)
 | _ :: l,vs,ts=>(cH rb l vs ts).bind fun u=>some (none :: u)
def dN (rb:Bool):aH→List SV→List (Nat×Nat)
 | [],_=>[]
 | (_,.box _ _) :: l,_ :: vs=>dN rb l vs
 | (k,.row _ _ _ _) :: l,vs=>match rb with
  | true=>match vs with
   | .row m :: vs=>(m,k) :: dN rb l vs
   | _=>[]
  | false=>dN rb l vs
 | (_,.old _ _ _) :: l,vs=>dN rb l vs
 | (_,.gone _ _ _) :: l,vs=>dN rb l vs
 | (_,.keepF _ _) :: l,vs=>dN rb l vs
 | (_,.rowP _ _) :: l,vs=>dN rb l vs
 | _ :: _,_=>[]
def EL:Up→Nat→Option aY→Option aY
 | [],_,x=>x
 | (k,v) :: l,r,x=>match Nat.beq k r with | true=>EL l r v | false=>EL l r x
def FP:List Nat→Bool
 | []=>true
 | r :: l => !(zr l r) && FP l
def moves (un:Up) (ids:List Nat):List (Nat×Nat)→Up
 | []=>[]
 | (m,k) :: l=>match EL un m none,ids[k]? with
  | some x,some r=>(m,none) :: (r,some x) :: moves un ids l
  | _,_=>moves un ids l
def FQ (rb:Bool):List (Nat×(Nat×aY))→Up
 | []=>[]
 | (r,(_,.row e t xs _)) :: l=>match rb with
  | true=>FQ rb l
  | false=>(r,some (.gone e t xs.length)) :: FQ rb l
 | _ :: l=>FQ rb l
def FR (res:aH):List Nat→Up
 | []=>[]
 | r :: l=>match az res r with
  | some (.keepF g caps)=>(r,some (.keepF g caps)) :: FR res l
  | _=>FR res l
def WL:List SV→SV
 | [v]=>v
 | l => .tup l
def dl:Sh→Bool
 | .val t=>dB t
 | .row _ t fr=>dB t && !fr
 | .unit=>true
 | .pair a b=>dl a && dl b
 | .strct s=>dl s
 | .ptr t=>dB t
def gR (g key:Nat) (args:List SV) (res:aH) (r0:Nat) (K:SV→Up→Option R):Option R :=
 match dq E.fns key with
 | none=>none
 | some I=>match Nat.beq I.g g with
  | false=>none
  | true =>
  match uI res (I.fn.params.toList.map fun T=>dq E.ty T) I.own args with
  | none=>none
  | some (args',fr) =>
   let ids:=cS res args'
   let tab:=c7 res (fun r=>dX r ids 0) ids 0
   match Nat.beq tab.length ids.length,Nat.ble ids.length r0,kQ fr ids with
   | true,true,false=>(call I (args'.map (nX (fun r=>dX r ids 0) 9)) tab).bind fun z =>
    match bU I.sh z.1 r0 with
    | (vs,u,n)=>match bU I.bx z.2 n with
     | (bs,u',n')=>match cH I.rb tab bs (rP I.bx),Nat.ble n' (r0+64) && FP ((dN I.rb tab bs).map (·.1)++(dN I.rb tab bs).filterMap fun p=>ids[p.2]?) with
      | some ub,true=>K (WL vs) ((match dl I.sh && dl I.bx with | true=>[] | false=>cd res fr)++(ids.zip ub++(u++u'))++moves (u++u') ids (dN I.rb tab bs)++(FQ I.rb (ids.zip tab)++FR res ids))
      | _,_=>none
   | _,_,_=>none
def jA (g:Nat) (args:List SV) (res:aH) (r0:Nat) (K:SV→Up→Option R):Option R :=
 match dq E.sub g with
 | none=>gR E call g g args res r0 K
 | some s=>(s.dec res args).bind fun b=>if b=true then gR E call g s.yes args res r0 K else gR E call g s.no args res r0 K
def aP:Ty→SV→Nat→SV×Up×Nat
 | .slice e t,.nilS,n=>(.row n,[(n,some (.row e t [] false))],n+1)
 | .agg t,.strct l,n=>match go t l n with
  | (l',u,m)=>(.strct l',u,m)
 | _,v,n=>(v,[],n)
where
 go:Ty→List SV→Nat→List SV×Up×Nat
 | .pair a b,v :: l,n=>match aP a v n with
  | (v',u,m)=>match go b l m with
   | (l',u',m')=>(v' :: l',u++u',m')
 | _,l,n=>(l,[],n)
def WM:SV→Option (IntKind×Int)
 | .val (.int k) n=>some (k,n)
 | _=>none
def FS (res:aH) (e:TypeId) (t:Ty) (v:SV):Option (List t.den):=de res 1 (.slice e t) v
def pE (op:BinOp) (k:IntKind) (a b:Int) (K:SV→Up→Option R):Option R :=
 match op with
 | .add=>K (.val (.int k) (k.wrap (a+b))) []
 | .sub=>K (.val (.int k) (k.wrap (a - b))) []
 | .mul=>K (.val (.int k) (k.wrap (a*b))) []
 | .quo=>if b=0 then none else K (.val (.int k) (k.wrap (a.tdiv b))) []
 | .rem=>if b=0 then none else K (.val (.int k) (a.tmod b)) []
 | .and | .or | .xor | .andNot=>K (.val (.int k) (Go.bits op k a b)) []
 | .eql=>K (.val .bool (a == b)) []
 | .neq=>K (.val .bool (a != b)) []
 | .lss=>K (.val .bool (decide (a < b))) []
 | .leq=>K (.val .bool (decide (a≤b))) []
 | .gtr=>K (.val .bool (decide (a > b))) []
 | .geq=>K (.val .bool (decide (a≥b))) []
 | .shl=>if b < 0 then none else K (.val (.int k) (k.wrap (a*2 ^ min b.toNat k.bits))) []
 | .shr=>if b < 0 then none else K (.val (.int k) (a.fdiv (2 ^ min b.toNat k.bits))) []
def xH (op:BinOp) (a b:ByteArray) (K:SV→Up→Option R):Option R :=
 match op with
 | .add=>if a.size+b.size≤9223372036854775807 then K (.val .str (a++b)) [] else none
 | .eql=>K (.val .bool (a.toList == b.toList)) []
 | .neq=>K (.val .bool (!(a.toList == b.toList))) []
 | .lss=>K (.val .bool (Op.bytesLess a.toList b.toList)) []
 | .leq=>K (.val .bool (Op.bytesLess a.toList b.toList || a.toList == b.toList)) []
 | .gtr=>K (.val .bool (!(Op.bytesLess a.toList b.toList || a.toList == b.toList))) []
 | .geq=>K (.val .bool (!Op.bytesLess a.toList b.toList)) []
 | _=>none
def xI (op:BinOp) (T:TypeId) (x y:SV) (K:SV→Up→Option R):Option R :=
 match x,y with
 | .val (.int k) a,.val (.int k') b=>match op with
  | .shl | .shr=>pE op k a b K
  | _=>if k=k' then pE op k a b K else none
 | .val .str a,.val .str b=>xH op a b K
 | .val .bool a,.val .bool b=>match op,dq E.ty T with
  | .eql,some .bool=>K (.val .bool (a == b)) []
  | .neq,some .bool=>K (.val .bool (!(a == b))) []
  | _,_=>none
 | x,y=>match dq E.eqs T with
  | some t=>match de [] 9 t x,de [] 9 t y,op with
   | some a,some b,.eql=>K (.val .bool (bv t a b)) []
   | some a,some b,.neq=>K (.val .bool (!(bv t a b))) []
   | _,_,_=>none
  | none=>none
def WN:Operand→Bool
 | .const .nilIface=>true
 | _=>false
def xJ (op:BinOp) (T:TypeId) (x:SV) (K:SV→Up→Option R):Option R :=
 match dq E.ty T,x with
 | some .err,.val .err b=>match op with
  | .eql=>K (.val .bool b) []
  | .neq=>K (.val .bool (Bool.not b)) []
  | _=>none
 | _,_=>none
def xK (s:ByteArray) (lo hi:Option Int) (K:SV→Up→Option R):Option R :=
 match lo,hi with
 | none,none=>K (.val .str s) []
 | none,some h=>if 0≤h then(if h≤s.size then K (.val .str (s.extract 0 h.toNat)) [] else none) else none
 | some l,none=>if 0≤l then(if l≤s.size then K (.val .str (s.extract l.toNat s.size)) [] else none) else none
 | some l,some h=>if 0≤h then(if h≤s.size then(if 0≤l then(if l≤h then K (.val .str (s.extract l.toNat h.toNat)) [] else none) else none) else none) else none
def lC (e:TypeId) (t:Ty) (xs:List t.den) (lo hi:Option Int) (u:Up) (K:SV→Up→Option R):Option R :=
 match lo,hi with
 | none,none=>K (.val (.slice e t) xs) u
 | none,some h=>if 0≤h then(if h≤xs.length then K (.val (.slice e t) (xs.take h.toNat)) u else none) else none
 | some l,none=>if 0≤l then(if l≤xs.length then K (.val (.slice e t) (xs.drop l.toNat)) u else none) else none
 | some l,some h=>if 0≤h then(if h≤xs.length then(if 0≤l then(if l≤h then K (.val (.slice e t) ((xs.take h.toNat).drop l.toNat)) u else none) else none) else none) else none
def sr:Option SV→Option (Option Int)
 | none=>some none
 | some v=>(WM v).bind fun(_,n)=>some (some n)
def ut (ty:Ty) (lo hi:Option SV) (x:SV) (res:aH) (r0:Nat) (K:SV→Up→Option R):Option R :=
 match sr lo,sr hi,ty,x with
 | some l,some h,.str,.val .str s=>xK s l h K
 | some none,some (some h),.slice e0 t0,.row r=>match az res r with
  | some (.row e t xs false)=>if Ty.slice e t = .slice e0 t0 then(if 0≤h then(if h≤xs.length then K (.row r0) [(r,none),(r0,some (.row e t (xs.take h.toNat) false))] else none) else none) else none
  | some (.row e t xs true)=>if Ty.slice e t = .slice e0 t0 then lC e t xs none (some h) [] K else none
  | some (.old e t xs)=>if Ty.slice e t = .slice e0 t0 then lC e t xs none (some h) [] K else none
  | _=>none
 | some l,some h,.slice e t,v=>match FS res e t v with
  | some xs=>lC e t xs l h (cd res (dw 9 v)) K
  | none=>none
 | _,_,_,_=>none
def uu (ty:Ty) (lo hi:Option SV) (x:SV) (res:aH) (K:SV→Up→Option R):Option R :=
 match sr lo,sr hi,ty with
 | some l,some h,.slice e t=>match FS res e t x with
  | some xs=>lC e t xs l h (cd res (dw 9 x)) K
  | none=>none
 | _,_,_=>none
def OZ (E:cO) (T:TypeId):Option Nat→Bool
 | some d=>E.cuts.any fun p=>Nat.beq p.1 T && Nat.beq p.2 d
 | none=>false
def K7 (E:cO) (T:TypeId):Option Nat→Bool
 | some d=>E.tails.any fun p=>Nat.beq p.1 T && Nat.beq p.2 d
 | none=>false
def xL (lo hi:Option Operand) (ty:Ty) (x:SV) (is:List SV) (res:aH) (K:SV→Up→Option R):Option R :=
 match lo,hi,ty,x with
 | some _,none,.slice e0 t0,.row r=>match az res r,is with
  | some (.row e t xs false),[.val (.int _) l]=>if Ty.slice e t = .slice e0 t0 then(if 0≤l then(if l < xs.length then K (.tail r l) [] else none) else none) else none
  | _,_=>none
 | _,_,_,_=>none
def vX (res:aH) (t:Ty):List (Nat×SV)→List t.den→Option (List t.den)
 | [],l=>some l
 | (i,v) :: ps,l=>match Nat.blt i l.length with
  | true=>(de res 9 t v).bind fun x=>vX res t ps (l.set i x)
  | false=>none
def nY (res:aH):List Ty→List (Nat×SV)→List SV→Option (List SV)
 | _,[],l=>some l
 | ts,(i,v) :: ps,l=>match ts[i]? with
  | some t=>match gl res 9 t v with | true=>nY res ts ps (l.set i v) | false=>none
  | none=>none
def l8:Ty→List Ty
 | .pair a b=>a :: l8 b
 | _=>[]
def xM (t:Ty) (l:List SV):Option SV:=match l.all X1 with
 | true=>(ur (de [] 9) t l).bind fun x=>some (.val (.agg t) x)
 | false=>some (.strct l)
def uv (f:Int→Int→Int) (k:IntKind):List SV→Int→Option Int
 | [],n=>some n
 | .val (.int k') m :: l,n=>if k=k' then uv f k l (f n m) else none
 | _,_=>none
def FT (argTypes:Array TypeId) (v:SV) (res:aH) (K:SV→Up→Option R):Option R :=
 match argTypes[0]?.bind (dq E.ty),v with
 | some .str,.val .str s=>K (.val (.int .i64) (s.size:Int)) []
 | some (.slice e t),.tail r i=>match az res r with
  | some (.row e' t' xs false)=>if Ty.slice e' t' = .slice e t then K (.val (.int .i64) ((xs.length:Int) - i)) [] else none
  | _=>none
 | some (.slice e t),v=>match FS res e t v with
  | some xs=>K (.val (.int .i64) (xs.length:Int)) []
  | none=>match v with
   | .row r=>match az res r with
    | some (.gone e' t' n)=>if Ty.slice e' t' = .slice e t then K (.val (.int .i64) (n:Int)) [] else none
    | some (.rowP e' l)=>if Ty.slice e' .pt = .slice e t then K (.val (.int .i64) (l.length:Int)) [] else none
    | _=>none
   | _=>none
 | _,_=>none
def q4 (argTypes:Array TypeId) (s x:SV) (res:aH) (r0:Nat) (K:SV→Up→Option R):Option R :=
 match argTypes.toList,s with
 | [T,T'],.row r=>match dq E.ty T,Nat.beq T T',az res r with
  | some (.slice e t),true,some (.row e' t' xs fr)=>match kP? (t := .slice e' t') (.slice e t) xs,de res 9 (.slice e t) x,zr (dw 9 x) r,dq E.by_ e with
   | some xs,some ys,false,some nb=>if((xs:List t.den).length+(ys:List t.den).length)*nb≤140737488355328 then K (.row r0) (cd res (dw 9 x)++[(r,KN e t xs fr),(r0,some (.row e t ((xs:List t.den)++(ys:List t.den)) fr))]) else none
   | _,_,_,_=>none
  | _,_,_=>none
 | _,_=>none
def uJ (f:Int→Int→Int) (v:SV) (l:List SV) (K:SV→Up→Option R):Option R :=
 match v with
 | .val (.int k) n=>match uv f k l n with | some m=>K (.val (.int k) m) [] | none=>none
 | _=>none
def xN (argTypes:Array TypeId) (v:SV) (res:aH) (K:SV→Up→Option R):Option R :=
 match argTypes[0]?.bind (dq E.ty),v with
 | some (.slice e t),.tail r i=>match az res r with
  | some (.row e' t' xs false)=>if Ty.slice e' t' = .slice e t then K .undef [(r,some (.row e' t' (xs.take i.toNat++List.replicate (xs.length - i.toNat) t'.dflt) false))] else none
  | _=>none
 | _,_=>none
def q5 (b:Builtin) (argTypes:Array TypeId) (T:TypeId) (args:List SV) (res:aH) (r0:Nat) (K:SV→Up→Option R):Option R :=
 match b with
 | .len=>match args with | [v]=>FT E argTypes v res K | _=>none
 | .append=>match args with | [s,x]=>q4 E argTypes s x res r0 K | _=>none
 | .min=>match args with | v :: l=>uJ (fun x y=>if y < x then y else x) v l K | _=>none
 | .max=>match args with | v :: l=>uJ (fun x y=>if x < y then y else x) v l K | _=>none
 | .clear=>match args with | [v]=>xN E argTypes v res K | _=>none
 | _=>none
def uw (T:TypeId) (n:Nat) (ps:Array (Nat×Operand)) (vs:List SV) (res:aH) (r0:Nat) (K:SV→Up→Option R):Option R :=
 match n,vs with
 | 2,[.ptr r s p,.ptr r' s' p']=>match dq E.ty T,ps.toList.map (·.1) with
  | some (.slice e .pt),[0,1]=>K (.row r0) [(r0,some (.rowP e [.ptr r s p,.ptr r' s' p']))]
  | _,_=>none
 | n,vs=>match dq E.ty T with
  | some (.slice e t)=>match vX res t ((ps.toList.map (·.1)).zip vs) (List.replicate n t.dflt),Nat.ble (n*t.sz) 16777216 with
   | some xs,true=>K (.row r0) (cd res (vs.flatMap (dw 9))++[(r0,some (.row e t xs false))])
   | _,_=>none
  | _=>none
def cK (o:Oper) (args:List SV) (res:aH) (r0:Nat) (K:SV→Up→Option R):Option R :=
 match o.op,args with
 | .move _,[v] | .assign _,[v]=>match v,dq E.ty o.type with
  | .nilS,some (.slice e t)=>K (.row r0) [(r0,some (.row e t [] false))]
  | .strct l,some (.agg t)=>match aP (.agg t) (.strct l) r0 with
   | (v',u,m)=>match Nat.ble m (r0+64) with | true=>K v' u | false=>none
  | _,_=>K v []
 | .pick _ _ _,[c,a,b]=>match c,a,b with
  | .val .bool x,.val .bool y,.val .bool z=>K (.val .bool (if x=true then y else z)) []
  | .val .bool x,a,b=>if x=true then K a [] else K b []
  | _,_,_=>none
 | .alloc T,_=>match dq E.ty T with
  | some t=>match aP t (km t) (r0+1) with
   | (c,u,m)=>match Nat.ble m (r0+64) with | true=>K (.ptr r0 t []) (u++[(r0,some (.box t c))]) | false=>none
  | none=>none
 | .box T _,[v]=>match dq E.ty T with
  | some t=>match gl res 9 t v with
   | true=>match aP t (hZ v) (r0+1) with
    | (c,u,m)=>match Nat.ble m (r0+64) with | true=>K (.ptr r0 t []) (u++[(r0,some (.box t c))]) | false=>none
   | false=>none
  | none=>none
 | .build T ps,vs=>match dq E.ty T with
  | some (.agg t)=>match km (.agg t) with
   | .strct l=>match nY res (l8 t) ((ps.toList.map (·.1)).zip vs) l with
    | some l=>match xM t l with | some v=>K v [] | none=>none
    | none=>none
   | _=>none
  | _=>none
 | .buildSlice T n ps,vs=>uw E T n ps vs res r0 K
 | .load T _,[p]=>match dq E.ty T,p with
  | some t,.ptr r s path=>if s=t then(match az res r with
   | some (.box _ c)=>match xF path c with
    | some (.strct l)=>match t with
     | .agg t'=>match xM t' l with | some v=>K v [] | none=>none
     | _=>none
    | some v=>K v []
    | none=>none
   | some (.keepF g caps)=>match path,t with
    | [],.fn=>K (.fn g caps) []
    | _,_=>none
   | _=>none) else none
  | some t,.eptr s x=>if s=t then K (.val s x) [] else none
  | some t,.rptr r _ i path=>match az res r with
   | some (.rowP e l)=>match t,path with
    | .pt,[]=>match l[i.toNat]? with
     | some v=>K v []
     | none=>none
    | _,_=>none
   | some (.row _ u xs _)=>match pC path u (xs.getD i.toNat u.dflt) with
    | some (.val s y)=>if s=t then K (.val s y) [] else none
    | _=>none
   | _=>none
  | _,_=>none
 | .store T _ _,[p,v]=>match dq E.ty T,p with
  | some .fn,.ptr r .fn []=>match az res r,v with
   | some (.box .fn _),.fn g caps=>match caps.all Qr with
    | true=>K .undef [(r,some (.keepF g caps))]
    | false=>none
   | _,_=>none
  | some t,.ptr r s path=>if s=t then(match az res r with
   | some (.box bt c)=>match gl res 9 t v,aP t v r0 with
    | true,(v',u,m)=>match FO path c v',Nat.ble m (r0+64) with
     | some c',true=>K .undef (u++[(r,some (.box bt c'))])
     | _,_=>none
    | false,_=>none
   | _=>none) else none
  | some t,.rptr r _ i path=>match az res r with
   | some (.row e u xs false)=>match zr (dw 9 v) r,de res 9 t v with
    | false,some x=>match uG path u (xs.getD i.toNat u.dflt) (fun s=>kP? s x) with
     | some y=>K .undef (cd res (dw 9 v)++[(r,some (.row e u (xs.set i.toNat y) false))])
     | none=>none
    | _,_=>none
   | _=>none
  | _,_=>none
 | .nilCheck _,[p]=>match p with
  | .ptr _ _ _ | .eptr _ _ | .rptr _ _ _ _=>K p []
  | _=>none
 | .binOp op T _ j _,[x,y]=>match WN j with
  | true=>xJ E op T x K
  | false=>xI E op T x y K
 | .unOp op _ _,[x]=>match op,x with
  | .neg,.val (.int k) n=>K (.val (.int k) (k.wrap (0 - n))) []
  | .not,.val .bool b=>K (.val .bool (!b)) []
  | .xor,.val (.int k) n=>K (.val (.int k) (Go.bits .xor k (if k.signed then -1 else k.max) n)) []
  | _,_=>none
 | .convert S D _,[x]=>match dq E.ty S,dq E.ty D,x with
  | some _,some (.int k),.val (.int _) n=>K (.val (.int k) (k.wrap n)) []
  | some _,some .str,.val .str s=>K (.val .str s) []
  | some (.slice e (.int .u8)),some .str,v=>match FS res e (.int .u8) v with
   | some xs=>K (.val .str (strOfNums xs)) []
   | none=>none
  | _,_,_=>none
 | .makeFunc (.func g) first _,vs=>match first.size with
  | 0=>K (.fn g vs) []
  | _=>none
 | .makeSlice T l c,[x,_]=>match dq E.ty T,Br l c,x with
  | some (.slice e t),true,.val (.int _) n=>match dq E.by_ e with
   | some nb=>if 0≤n then(if n.toNat*nb≤140737488355328 then K (.row r0) [(r0,some (.row e t (List.replicate n.toNat t.dflt) false))] else none) else none
   | none=>none
  | _,_,_=>none
 | .slice T _ lo hi mx,x :: is=>match dq E.ty T,mx with
  | some ty,none=>match K7 E T o.dst with
   | true=>xL lo hi ty x is res K
   | false=>match OZ E T o.dst with
    | true=>uu ty (match lo with | some _=>is.head? | none=>none) (match hi with | some _=>is.getLast? | none=>none) x res K
    | false=>ut ty (match lo with | some _=>is.head? | none=>none) (match hi with | some _=>is.getLast? | none=>none) x res r0 K
  | _,_=>none
 | .fieldAddr T _ f,[p]=>match dq E.ty T with
  | some (.agg t)=>match p with
   | .ptr r s path=>match dv t f with
    | some (_,s')=>if s = .agg t then K (.ptr r s' (path++[f])) [] else none
    | none=>none
   | .eptr s x=>match kP? (.agg t) x with
    | some x=>match oL t x f with
     | some (.val s y)=>K (.eptr s y) []
     | _=>none
    | none=>none
   | .rptr r s i path=>match dv t f with
    | some (_,s')=>if s = .agg t then K (.rptr r s' i (path++[f])) [] else none
    | none=>none
   | _=>none
  | _=>none
 | .field T _ f,[x]=>match dq E.ty T with
  | some t=>match gl res 9 t x with
   | true=>match zq x f with
    | some v=>K v []
    | none=>none
   | false=>none
  | none=>none
 | .indexAddr T _ _,[x,i]=>match dq E.ty T,i with
  | some (.slice e t),.val (.int _) n=>match x with
   | .row r=>match az res r with
    | some (.row e' u xs fr)=>if Ty.slice e' u = .slice e t then(match fr with
     | false=>if 0≤n then(if n < xs.length then K (.rptr r t n []) [] else none) else none
     | true=>if 0≤n then(if n < xs.length then K (.eptr u (xs.getD n.toNat u.dflt)) [] else none) else none) else none
    | some (.old e' u xs)=>if Ty.slice e' u = .slice e t then(if 0≤n then(if n < xs.length then K (.eptr u (xs.getD n.toNat u.dflt)) [] else none) else none) else none
    | some (.rowP e' l)=>if Ty.slice e' .pt = .slice e t then(if 0≤n then(if n < l.length then K (.rptr r t n []) [] else none) else none) else none
    | _=>none
   | .val s xs=>match kP? (.slice e t) xs with
    | some xs=>if 0≤n then(if n < (xs:List t.den).length then K (.eptr t (xs.getD n.toNat t.dflt)) [] else none) else none
    | none=>none
   | .tail r l=>match az res r with
    | some (.row e' u xs false)=>if Ty.slice e' u = .slice e t then(if 0≤n then(if n < (xs.length:Int) - l then K (.rptr r t (l+n) []) [] else none) else none) else none
    | _=>none
   | _=>none
  | _,_=>none
 | .index T _ _,[x,i]=>match dq E.ty T,x,i with
  | some .str,.val .str s,.val (.int _) n=>if 0≤n then(if n < s.size then K (.val (.int .u8) (bt s n)) [] else none) else none
  | _,_,_=>none
 | .extract _ i,[x]=>match x with
  | .tup l=>match l[i]? with | some v=>K v [] | none=>none
  | _=>none
 | .call c,vs=>match c.callee,vs with
  | .builtin b,vs=>q5 E b c.argTypes o.type vs res r0 K
  | .value _,.fn g caps :: as=>jA E call g (as++caps) res r0 K
  | _,_=>none
 | _,_=>none
def HI:Value→SV
 | .int k n => .val (.int k) n
 | .bool b => .val .bool b
 | .string s => .val .str s
 | .slice none 0 0 => .nilS
 | _ => .undef
def ev (l:List SV):Operand→SV
 | .tmp t=>gZ l t
 | .const v=>HI v
 | .func f => .fn f []
 | .global _ => .undef
def ed:Op→List Operand
 | .alloc _=>[]
 | .move x | .assign x | .box _ x | .load _ x | .nilCheck x | .unOp _ _ x | .convert _ _ x | .fieldAddr _ x _ | .field _ x _ | .extract x _=>[x]
 | .pick c a b=>[c,a,b]
 | .build _ ps | .buildSlice _ _ ps=>ps.toList.map (·.2)
 | .store _ a v | .binOp _ _ a v _ | .makeSlice _ a v | .indexAddr _ a v | .index _ a v=>[a,v]
 | .makeFunc _ first captured=>first.toList++captured.toList
 | .slice _ x l h m=>x :: (l.toList++h.toList++m.toList)
 | .call c=>(match c.callee with | .value f=>[f] | _=>[])++c.args.toList
 | _=>[]
def oM (σ:St) (d:Option Nat) (v:SV) (u:Up):St :=
 {σ with slots:=match d with | some d=>dA σ.slots d v | none=>σ.slots,res:=xG σ.res u}
def g5 (res:aH):List Nat→aH
 | []=>[]
 | r :: l=>match az res r with
  | some v=>(r,v) :: g5 res l
  | none=>g5 res l
structure Bt where
 i:Nat
 see:List Nat
 turn:List Nat
def YU:Op→Bool
 | .move _ | .assign _ | .nilCheck _ | .unOp _ _ _ | .fieldAddr _ _ _ | .extract _ _ | .makeFunc _ _ _ | .index _ _ _=>true
 | _=>false
def Zo:Op→Bool
 | .load _ _=>true
 | _=>false
def mV (o:Oper) (res:aH) (vs:List SV):List Nat:=match YU o.op with
 | true=>[]
 | false=>match Zo o.op with
  | true=>vs.foldl (fun l v=>rO 9 v l) []
  | false=>cS res vs
def SG (o:Oper):List Nat:=(ed o.op).filterMap fun | .tmp t=>some t | _=>none
def mW (all:Array Oper) (o:Oper):List Nat:=SG o++(match o.guard with | some (j,_)=>(match all[j]?.bind (·.dst) with | some d=>[d] | none=>[]) | none=>[])
def vY (all:Array Oper) (a b:Bt):Bool:=match all[a.i]?,all[b.i]? with
 | some x,some y =>
  let xd:=x.dst.toList; let yd:=y.dst.toList
  kQ xd (yd++mW all y) || kQ yd (mW all x) || kQ a.turn (b.see++b.turn) || kQ b.turn a.see
 | _,_=>true
def CX (all:Array Oper) (bf:Array Nat):List Bt→Bool
 | []=>true
 | b :: l=>(l.all fun a => !(vY all a b) || (bf.getD b.i 0).testBit a.i) && CX all bf l
def HJ (all:Array Oper):Bool:=(List.range all.size).all fun i=>match all[i]? with
 | some o=>o.after.all fun e => !Region.binds .any e || Nat.blt e.on i
 | none=>true
def uK (r0:Nat) (see:List Nat) (u:Up):Bool:=u.all fun(r,_)=>zr see r || (Nat.ble r0 r && Nat.blt r (r0+64))
def cR (all:Array Oper) (draw:Bool) (base:Nat):List (Nat×Oper)→List Bt→St→(St→Option R)→Option R
 | [],g,σ,K=>match draw with
  | false=>K σ
  | true=>match CX all (Region.before all) g,HJ all with | true,true=>K σ | _,_=>none
 | (i,o) :: l,g,σ,K =>
  let act:=fun(σ:St) (b:Bool)=>match b with
   | true =>
    let vs:=(ed o.op).map (ev σ.slots)
    let ids:=mV o σ.res vs
    cK E call o vs (g5 σ.res ids) (base+64*i) fun v u=>match uK (base+64*i) ids u with
     | true=>cR all draw base l ({i,see:=ids,turn:=u.map (·.1)} :: g) (oM σ o.dst v u) K
     | false=>none
   | false=>cR all draw base l ({i,see:=[],turn:=[]} :: g) (oM σ o.dst (.tup []) []) K
  match o.guard with
  | none=>act σ true
  | some (j,want)=>match all[j]?.bind (·.dst) with
    | some d=>match gZ σ.slots d with
     | .val .bool x=>if x=true then act {σ with slots:=dA σ.slots d (.val .bool true)} (true == want) else act {σ with slots:=dA σ.slots d (.val .bool false)} (false == want)
     | .tup []=>act σ false
     | _=>none
    | none=>none
end
inductive Fr where
 | seq (b:Code)
 | block (id:Nat)
 | loop (b:Code)
def tg (live:List Nat):Nat→List SV→List SV
 | _,[]=>[]
 | n,v :: l=>(match dX n live 0 with | some _=>v | none => .undef) :: tg live (n+1) l
def norm (live:List Nat) (σ:St):St :=
 let sl:=tg live 0 σ.slots
 let ids:=lB σ.res sl (pD σ.n0)
 let f:=fun r=>dX r ids 0
 {slots:=sl.map (nX f 9),res:=c7 σ.res f ids 0,nx:=ids.length,n0:=σ.n0}
def aC:Sh→SV→List Nat
 | .row _ _ _,.row r=>[r]
 | .ptr _,.ptr r _ _=>[r]
 | .strct s,.strct l=>go s l
 | _,_=>[]
where
 go:Sh→List SV→List Nat
 | .pair a b,v :: l=>aC a v++go b l
 | _,_=>[]
def bV (s:Sh) (l:List SV):List Nat:=aC.go s l
abbrev nN:=(I:an)→{R:Type}→(St→Option R)→Code→List Fr→St→Option R
def mX (rb:Bool) (res:aH):aH→Option (List SV)
 | []=>some []
 | (j,.box t _) :: l=>match az res j with
  | some (.box t' c)=>if t'=t then(mX rb res l).bind fun cs=>some (c :: cs) else none
  | _=>none
 | (j,.row _ _ _ _) :: l=>match rb with
  | true=>(mX rb res l).bind fun cs=>some (.row j :: cs)
  | false=>mX rb res l
 | _ :: l=>mX rb res l
def ff:Sh→SV→List Nat
 | .val _,v=>dw 9 v
 | .strct s,.strct l=>go s l
 | _,_=>[]
where
 go:Sh→List SV→List Nat
 | .pair a b,v :: l=>ff a v++go b l
 | _,_=>[]
def given (E:cO) (σ:St):ResultVar→SV
 | .tmp t=>gZ σ.slots t
 | .cell a T=>match gZ σ.slots a,dq E.ty T with
  | .ptr r s path,some t=>match az σ.res r with
   | some (.box _ c)=>match xF path c with | some v=>if s=t then v else .undef | none => .undef
   | _ => .undef
  | _,_ => .undef
def rQ (n0:Nat) (res:aH):(s:Sh)→SV→Option s.den
 | .unit,v=>match v with
  | .undef=>none
  | _=>some ()
 | .ptr t,v=>match v with
  | .ptr r s' []=>match Nat.ble n0 r,az res r with
   | true,some (.box t' c)=>if s'=t then(if t'=t then de [] 9 t c else none) else none
   | _,_=>none
  | _=>none
 | s,v=>gm res s v
def l9 (n0:Nat) (res:aH):(s:Sh)→List SV→Option s.den
 | .pair a b,v :: l=>(rQ n0 res a v).bind fun x=>(l9 n0 res b l).bind fun y=>some (x,y)
 | .unit,[]=>some ()
 | _,_=>none
def aR (E:cO) (I:an) (tab:aH) (σ:St):Option (I.sh.den×I.bx.den) :=
 let vs:=I.fn.results.toList.map (given E σ)
 (l9 tab.length σ.res I.sh vs).bind fun x=>(mX I.rb σ.res tab).bind fun cs=>(gm.go σ.res I.bx cs).bind fun y =>
  match FP (bV I.sh vs++bV I.bx cs),kQ (bV I.sh vs++bV I.bx cs) (ff.go I.sh vs++ff.go I.bx cs) with
  | true,false=>some (x,y)
  | _,_=>none
def aJ (f:Func):Code:=match f.body with | some c=>c | none => .refuse ""
def start (I:an) (args:List SV) (tab:aH):St :=
 {slots:=args++List.replicate (I.fn.ntmps - args.length) .undef,res:=tab,nx:=tab.length,n0:=tab.length}
def fj (E:cO) (rec:nN) (I:an) (args:List SV) (tab:aH):Option (I.sh.den×I.bx.den) :=
 match I.prim with
 | some f=>f args tab
 | none=>rec I (aR E I tab) (aJ I.fn) [] (start I args tab)
def zu (I:an) (id:Nat):List Fr→Option (List Fr)
 | []=>none
 | .block j :: S=>match Nat.beq j id with | true=>some S | false=>zu I id S
 | _ :: S=>zu I id S
def uL (rec:nN) (I:an) {R:Type} (K:St→Option R) (S:List Fr) (σ:St):Option R :=
 match S with
 | []=>K σ
 | .seq b :: S=>rec I K b S σ
 | .block _ :: S=>rec I K .skip S σ
 | .loop b :: S=>rec I K (.loop b) S σ
def step (E:cO) (rec:nN):nN:=fun I _ K c S σ=>match c with
 | .skip=>uL rec I K S σ
 | .region id ops draw =>
  let σ:=match dq I.live id with | some l=>norm l σ | none=>σ
  cR {E with sub:=I.sub} (fj E rec) ops draw σ.nx ((List.range ops.size).zip ops.toList) [] σ fun σ'=>uL rec I K S {σ' with nx:=σ.nx+64*ops.size}
 | .seq a b=>rec I K a (.seq b :: S) σ
 | .cond c a b=>match ev σ.slots c with
  | .val .bool x=>if x=true then rec I K a S σ else rec I K b S σ
  | _=>none
 | .block id b=>rec I K b (.block id :: S) σ
 | .loop b=>rec I K b (.loop b :: S) σ
 | .exit id=>match zu I id S with | some S'=>rec I K .skip S' σ | none=>none
 | .ret=>K σ
 | _=>none
def run (E:cO) (k:Nat):nN:=Nat.rec (fun _ _ _ _ _ _=>none) (fun _ rec=>step E rec) k
def call (E:cO) (k:Nat) (I:an) (args:List SV) (tab:aH):Option (I.sh.den×I.bx.den):=fj E (run E k) I args tab
end Go.Proofs.YtnodjiikdgmeaaaGreatDoor.Abs
set_option linter.unusedVariables false
set_option linter.unusedSimpArgs false
namespace Go.Proofs.YtnodjiikdgmeaaaGreatDoor.Abs
open Go Go.RowKit
abbrev Lk:=Nat→Nat→Value→Prop
def RK (L:Lk):(t:Ty)→t.den→List Value→Prop
 | .int k,n,cs=>cs=[.int k n]
 | .bool,b,cs=>cs=[.bool b]
 | .str,s,cs=>cs=[.string s]
 | .unit,_,cs=>cs=[]
 | .pair a b,x,cs => ∃ c d,cs=c++d∧RK L a x.1 c∧RK L b x.2 d
 | .agg t,x,cs=>RK L t x cs
 | .err,b,cs=>(b=true∧cs=[.nilIface])∨(b=false ∧ ∃ T p,cs=[.iface T p])
 | .fn,_,cs=>cs=[.nilFunc]
 | .pt,_,cs=>cs=[.pointer none]
 | .slice _ t,xs,cs => ∃ A cap,cs=[.slice A (xs:List t.den).length cap]∧xs.length≤cap ∧
   (xs≠[] → ∃ b o,A=some ⟨b,o,none⟩ ∧ ∀ i (h:i < xs.length),∃ c,RK L t xs[i] c ∧ ∀ j v,c[j]? = some v→L b (o+i*t.sz+j) v)
theorem eE {L:Lk} : ∀ {t:Ty} {x:t.den} {cs:List Value},RK L t x cs→cs.length=t.sz
 | .int k,n,cs,h=>by rw[show cs=_ from h]; rfl
 | .bool,b,cs,h=>by rw[show cs=_ from h]; rfl
 | .str,s,cs,h=>by rw[show cs=_ from h]; rfl
 | .unit,_,cs,h=>by rw[show cs=_ from h]; rfl
 | .pair a b,x,cs,h=>by
  obtain⟨c,d,rfl,h1,h2⟩:=h
  rw[List.length_append,eE h1,eE h2]
  rfl
 | .agg t,x,cs,h=>eE (t:=t) h
 | .err,b,cs,h=>by rcases h with⟨_,rfl⟩ | ⟨_,T,p,rfl⟩ <;> rfl
 | .fn,_,cs,h=>by rw[show cs=_ from h]; rfl
 | .pt,_,cs,h=>by rw[show cs=_ from h]; rfl
 | .slice _ t,xs,cs,h=>by
  obtain⟨A,cap,rfl,_⟩:=h
  rfl
theorem gT {L L':Lk} (hL : ∀ b o v,L b o v→L' b o v) : ∀ {t:Ty} {x:t.den} {cs:List Value},RK L t x cs→RK L' t x cs
 | .int k,n,cs,h=>h
 | .bool,b,cs,h=>h
 | .str,s,cs,h=>h
 | .unit,_,cs,h=>h
 | .pair a b,x,cs,h=>by
  obtain⟨c,d,rfl,h1,h2⟩:=h
  exact⟨c,d,rfl,gT hL h1,gT hL h2⟩
 | .agg t,x,cs,h=>gT (t:=t) hL h
 | .err,_,_,h=>h
 | .fn,_,_,h=>h
 | .pt,_,_,h=>h
 | .slice _ t,xs,cs,h=>by
  obtain⟨A,cap,rfl,hc,h⟩:=h
  refine⟨A,cap,rfl,hc,fun hne => ?_⟩
  obtain⟨b,o,hA,hh⟩:=h hne
  refine⟨b,o,hA,fun i hi => ?_⟩
  obtain⟨c,h1,h2⟩:=hh i hi
  exact⟨c,gT hL h1,fun j v hj=>hL _ _ _ (h2 j v hj)⟩
def one (v:Value):Prop:=(∀ l,v ≠ .agg l) ∧ ∀ l,v ≠ .tuple l
theorem pF {L:Lk} : ∀ {t:Ty} {x:t.den} {cs:List Value},RK L t x cs → ∀ v∈cs,v.oneCell'=true
 | .int k,n,cs,h,v,hv=>by
  rw[show cs=_ from h] at hv
  rw[List.mem_singleton.1 hv]
  rfl
 | .bool,b,cs,h,v,hv=>by
  rw[show cs=_ from h] at hv
  rw[List.mem_singleton.1 hv]
  rfl
 | .str,s,cs,h,v,hv=>by
  rw[show cs=_ from h] at hv
  rw[List.mem_singleton.1 hv]
  rfl
 | .unit,_,cs,h,v,hv=>by
  rw[show cs=_ from h] at hv
  cases hv
 | .pair a b,x,cs,h,v,hv=>by
  obtain⟨c,d,rfl,h1,h2⟩:=h
  rcases List.mem_append.1 hv with hv | hv
  ·exact pF h1 v hv
  ·exact pF h2 v hv
 | .agg t,x,cs,h,v,hv=>pF (t:=t) h v hv
 | .err,b,cs,h,v,hv=>by rcases h with⟨_,rfl⟩ | ⟨_,T,p,rfl⟩ <;> (rw[List.mem_singleton.1 hv]; rfl)
 | .fn,_,cs,h,v,hv=>by
  rw[show cs=_ from h] at hv
  rw[List.mem_singleton.1 hv]
  rfl
 | .pt,_,cs,h,v,hv=>by
  rw[show cs=_ from h] at hv
  rw[List.mem_singleton.1 hv]
  rfl
 | .slice _ t,xs,cs,h,v,hv=>by
  obtain⟨A,cap,rfl,_⟩:=h
  rw[List.mem_singleton.1 hv]
  rfl
def mk (t:Ty) (cs:List Value):Value:=match t with
 | .agg _ => .agg cs.toArray
 | _=>cs.headD undef
theorem K8 {L:Lk} {t:Ty} {x:t.den} {cs:List Value} (h:RK L t x cs) (ht:t.sz=1 ∨ ∃ u,t = .agg u):(mk t cs).cells=cs.toArray:=by
 match t,x,h,ht with
 | .int k,n,h,_=>rw[show cs=_ from h]; rfl
 | .bool,b,h,_=>rw[show cs=_ from h]; rfl
 | .str,s,h,_=>rw[show cs=_ from h]; rfl
 | .agg t,x,h,_=>rfl
 | .err,b,h,_=>rcases h with⟨_,rfl⟩ | ⟨_,T,p,rfl⟩ <;> rfl
 | .fn,_,h,_=>rw[show cs=_ from h]; rfl
 | .pt,_,h,_=>rw[show cs=_ from h]; rfl
 | .slice _ t,xs,h,_ =>
  obtain⟨A,cap,rfl,_⟩:=h
  rfl
 | .unit,_,h,ht=>rcases ht with ht | ⟨u,ht⟩ <;> cases ht
 | .pair a b,x,h,ht =>
  rcases ht with ht | ⟨u,ht⟩
  ·obtain⟨v,rfl⟩ : ∃ v,cs=[v]:=List.length_eq_one_iff.1 ((eE h).trans ht)
   have:=pF h v (List.mem_singleton.2 rfl)
   show v.cells = #[v]
   cases v <;> first | rfl | cases this
  ·cases ht
inductive G where
 | box (b:Nat) (t:Ty)
 | row (e:TypeId) (t:Ty) (v:Value)
inductive R1 (L:Lk) (γ:Nat→Option G):SV→Value→Prop
 | undef {v:Value}:R1 L γ .undef v
 | nilS:R1 L γ .nilS (.slice none 0 0)
 | val {t:Ty} {x:t.den} {cs:List Value} (h:RK L t x cs):R1 L γ (.val t x) (mk t cs)
 | row {e:TypeId} {t:Ty} {r:Nat} {v:Value} (h:γ r=some (.row e t v)):R1 L γ (.row r) v
 | ptr {r b o:Nat} {t s:Ty} {p:List Nat} (h:γ r=some (.box b t)) (hp:fC t p=some (o,s)):R1 L γ (.ptr r s p) (.pointer (some ⟨b,o,none⟩))
inductive AR (L:Lk) (γ:Nat→Option G):List SV→List Value→Prop
 | nil:AR L γ [] []
 | cons {v:SV} {l:List SV} {u:Value} {us:List Value} (h:R1 L γ v u) (k:AR L γ l us):AR L γ (v :: l) (u :: us)
mutual
inductive RT (L:Lk) (γ:Nat→Option G):Ty→SV→List Value→Prop
 | val {t:Ty} {x:t.den} {cs:List Value} (h:RK L t x cs):RT L γ t (.val t x) cs
 | nilS {e:TypeId} {t:Ty}:RT L γ (.slice e t) .nilS [.slice none 0 0]
 | row {e:TypeId} {t:Ty} {r:Nat} {v:Value} (h:γ r=some (.row e t v)):RT L γ (.slice e t) (.row r) [v]
 | strct {t:Ty} {l:List SV} {cs:List Value} (h:gC L γ t l cs):RT L γ (.agg t) (.strct l) cs
inductive gC (L:Lk) (γ:Nat→Option G):Ty→List SV→List Value→Prop
 | nil:gC L γ .unit [] []
 | cons {a b:Ty} {v:SV} {l:List SV} {c d:List Value} (h:RT L γ a v c) (k:gC L γ b l d):gC L γ (.pair a b) (v :: l) (c++d)
end
mutual
inductive RV (L:Lk) (γ:Nat→Option G):SV→Value→Prop
 | undef {v:Value}:RV L γ .undef v
 | nilS:RV L γ .nilS (.slice none 0 0)
 | val {t:Ty} {x:t.den} {cs:List Value} (h:RK L t x cs):RV L γ (.val t x) (mk t cs)
 | row {e:TypeId} {t:Ty} {r:Nat} {v:Value} (h:γ r=some (.row e t v)):RV L γ (.row r) v
 | ptr {r b o:Nat} {t s:Ty} {p:List Nat} (h:γ r=some (.box b t)) (hp:fC t p=some (o,s)):RV L γ (.ptr r s p) (.pointer (some ⟨b,o,none⟩))
 | eptr {t:Ty} {x:t.den} {cs:List Value} {b o:Nat} (h:RK L t x cs) (hc : ∀ j v,cs[j]? = some v→L b (o+j) v):RV L γ (.eptr t x) (.pointer (some ⟨b,o,none⟩))
 | rptr {r b n cap o:Nat} {e:TypeId} {t s:Ty} {i:Int} {p:List Nat} (h:γ r=some (.row e t (.slice (some ⟨b,0,none⟩) n cap))) (h0:0≤i) (hn:i < n) (hp:fC t p=some (o,s)) :
   RV L γ (.rptr r s i p) (.pointer (some ⟨b,i.toNat*t.sz+o,none⟩))
 | tail {r b n cap:Nat} {e:TypeId} {t:Ty} {i:Int} (h:γ r=some (.row e t (.slice (some ⟨b,0,none⟩) n cap))) (h0:0≤i) (hn:i < n) (hc:n≤cap) :
   RV L γ (.tail r i) (.slice (some ⟨b,i.toNat*t.sz,none⟩) (n - i.toNat) (cap - i.toNat))
 | fn {g:Nat} {caps:List SV} {vs:List Value} (h:ct L γ caps vs):RV L γ (.fn g caps) (.func (.func g) #[] vs.toArray)
 | tup {l:List SV} {vs:List Value} (h:ct L γ l vs):RV L γ (.tup l) (.tuple vs.toArray)
 | strct {t:Ty} {l:List SV} {cs:List Value} (h:gC L γ t l cs):RV L γ (.strct l) (.agg cs.toArray)
inductive ct (L:Lk) (γ:Nat→Option G):List SV→List Value→Prop
 | nil:ct L γ [] []
 | cons {v:SV} {l:List SV} {u:Value} {us:List Value} (h:RV L γ v u) (k:ct L γ l us):ct L γ (v :: l) (u :: us)
end
section
variable {L L':Lk} {γ γ':Nat→Option G}
theorem W8 (hL : ∀ b o v,L b o v→L' b o v) (hγ : ∀ r g,γ r=some g→γ' r=some g) {v:SV} {u:Value} (h:R1 L γ v u):R1 L' γ' v u:=by
 cases h with
 | undef=>exact .undef
 | nilS=>exact .nilS
 | val h=>exact .val (gT hL h)
 | row h=>exact .row (hγ _ _ h)
 | ptr h hp=>exact .ptr (hγ _ _ h) hp
theorem ma (hL : ∀ b o v,L b o v→L' b o v) (hγ : ∀ r g,γ r=some g→γ' r=some g) : ∀ {l:List SV} {us:List Value},AR L γ l us→AR L' γ' l us
 | _,_,.nil => .nil
 | _,_,.cons h k => .cons (W8 hL hγ h) (ma hL hγ k)
theorem WO {v:SV} {u:Value} (h:R1 L γ v u):RV L γ v u:=by
 cases h with
 | undef=>exact .undef
 | nilS=>exact .nilS
 | val h=>exact .val h
 | row h=>exact .row h
 | ptr h hp=>exact .ptr h hp
theorem O0 : ∀ {l:List SV} {us:List Value},AR L γ l us→ct L γ l us
 | _,_,.nil => .nil
 | _,_,.cons h k => .cons (WO h) (O0 k)
theorem O1 : ∀ {l:List SV} {us:List Value},AR L γ l us → ∀ {i:Nat} {v:SV},l[i]? = some v → ∃ u,us[i]? = some u∧R1 L γ v u
 | _,_,.nil,i,v,h=>by simp at h
 | _,_,.cons (u:=u) hv k,0,v,h=>by
  simp at h
  subst h
  exact⟨u,rfl,hv⟩
 | _,_,.cons hv k,i+1,v,h=>by
  obtain⟨u,h1,h2⟩:=O1 k (i:=i) (v:=v) (by simpa using h)
  exact⟨u,by simpa using h1,h2⟩
theorem YV {v:SV} {u:Value} (h:RV L γ v u) (hs:Qr v=true):R1 L γ v u:=by
 cases h <;> first | (cases hs; done) | exact .undef | exact .nilS | (exact .val (by assumption)) | (exact .row (by assumption)) | (exact .ptr (by assumption) (by assumption))
theorem HK : ∀ {l:List SV} {us:List Value},ct L γ l us→l.all Qr=true→AR L γ l us
 | _,_,.nil,_ => .nil
 | _,_,.cons h k,hs=>by
  simp only[List.all_cons,Bool.and_eq_true] at hs
  exact .cons (YV h hs.1) (HK k hs.2)
mutual
theorem q6 (hL : ∀ b o v,L b o v→L' b o v) (hγ : ∀ r g,γ r=some g→γ' r=some g) : ∀ {t:Ty} {v:SV} {cs:List Value},RT L γ t v cs→RT L' γ' t v cs
 | _,_,_,.val h => .val (gT hL h)
 | _,_,_,.nilS => .nilS
 | _,_,_,.row h => .row (hγ _ _ h)
 | _,_,_,.strct h => .strct (zv hL hγ h)
theorem zv (hL : ∀ b o v,L b o v→L' b o v) (hγ : ∀ r g,γ r=some g→γ' r=some g) : ∀ {t:Ty} {l:List SV} {cs:List Value},gC L γ t l cs→gC L' γ' t l cs
 | _,_,_,.nil => .nil
 | _,_,_,.cons h k => .cons (q6 hL hγ h) (zv hL hγ k)
end
mutual
theorem ux (hL : ∀ b o v,L b o v→L' b o v) (hγ : ∀ r g,γ r=some g→γ' r=some g) : ∀ {v:SV} {u:Value},RV L γ v u→RV L' γ' v u
 | _,_,.undef => .undef
 | _,_,.nilS => .nilS
 | _,_,.val h => .val (gT hL h)
 | _,_,.row h => .row (hγ _ _ h)
 | _,_,.ptr h hp => .ptr (hγ _ _ h) hp
 | _,_,.eptr h hc => .eptr (gT hL h) fun j v hj=>hL _ _ _ (hc j v hj)
 | _,_,.rptr h h0 hn hp => .rptr (hγ _ _ h) h0 hn hp
 | _,_,.tail h h0 hn hc => .tail (hγ _ _ h) h0 hn hc
 | _,_,.fn h => .fn (g6 hL hγ h)
 | _,_,.tup h => .tup (g6 hL hγ h)
 | _,_,.strct h => .strct (zv hL hγ h)
theorem g6 (hL : ∀ b o v,L b o v→L' b o v) (hγ : ∀ r g,γ r=some g→γ' r=some g) : ∀ {l:List SV} {us:List Value},ct L γ l us→ct L' γ' l us
 | _,_,.nil => .nil
 | _,_,.cons h k => .cons (ux hL hγ h) (g6 hL hγ k)
end
end
theorem O2 {L:Lk} {γ:Nat→Option G} : ∀ {l:List SV} {us:List Value},ct L γ l us→l.length=us.length
 | _,_,.nil=>rfl
 | _,_,.cons _ k=>by simp[O2 k]
theorem xO {L:Lk} {γ:Nat→Option G} : ∀ {l:List SV} {us:List Value},ct L γ l us → ∀ {i:Nat} {v:SV},l[i]? = some v → ∃ u,us[i]? = some u∧RV L γ v u
 | _,_,.nil,i,v,h=>by simp at h
 | _,_,.cons (u:=u) hv k,0,v,h=>by
  simp at h
  subst h
  exact⟨u,rfl,hv⟩
 | _,_,.cons hv k,i+1,v,h=>by
  obtain⟨u,h1,h2⟩:=xO k (i:=i) (v:=v) (by simpa using h)
  exact⟨u,by simpa using h1,h2⟩
theorem HL {L:Lk} {γ:Nat→Option G} {t:Ty} {l:List SV} {cs:List Value} (h:gC L γ t l cs):cs.length=t.sz:=by
 induction h using gC.rec (motive_1:=fun t _ cs _=>cs.length=t.sz) with
 | val h=>exact eE h
 | nilS=>rfl
 | row h=>rfl
 | strct h ih=>exact ih
 | nil=>rfl
 | cons h k ih1 ih2=>rw[List.length_append,ih1,ih2]; rfl
theorem iM {L:Lk} {γ:Nat→Option G} {t:Ty} {v:SV} {cs:List Value} (h:RT L γ t v cs):cs.length=t.sz:=by
 cases h with
 | val h=>exact eE h
 | nilS=>rfl
 | row h=>rfl
 | strct h=>exact(HL h:_)
end Go.Proofs.YtnodjiikdgmeaaaGreatDoor.Abs
namespace Go.Proofs.YtnodjiikdgmeaaaGreatDoor.Abs
open Go Go.RowKit
def zc:Ty→List Value
 | .int k=>[.int k 0]
 | .bool=>[.bool false]
 | .str=>[.string ⟨#[]⟩]
 | .unit=>[]
 | .pair a b=>zc a++zc b
 | .agg t=>zc t
 | .slice _ _=>[.slice none 0 0]
 | .err=>[.nilIface]
 | .fn=>[.nilFunc]
 | .pt=>[.pointer none]
def pG:Ty→Bool
 | .agg _=>true
 | _=>false
def UZ:TypeDesc→Bool
 | .struct _=>true
 | .array _ _=>true
 | _=>false
def d9:Bool→Ty→Bool
 | true,.pair a b=>d9 false a && d9 true b
 | true,.unit=>true
 | true,_=>false
 | false,.agg t=>d9 true t
 | false,.pair _ _=>false
 | false,.unit=>false
 | false,_=>true
structure gi (P:Program) (T:TypeId) (t:Ty):Prop where
 mk ::
 info : ∃ i,P.info? T=some i∧i.size=t.sz ∧ ∃ z,i.zero=some z∧z.cells.toList=zc t
 agg : ∃ d,P.underlying T=some d∧UZ d=pG t
 wf:d9 false t=true
theorem gi.one {P:Program} {T:TypeId} {t:Ty} (h:gi P T t):t.sz=1 ∨ ∃ u,t = .agg u:=by
 have:=h.wf
 cases t <;> first | (left; rfl) | (right; exact⟨_,rfl⟩) | (simp[d9] at this)
def O3 (P:Program):List Field→Ty→Nat→Prop
 | [],.unit,_=>True
 | f :: fs,.pair a b,o=>f.offset=o∧f.name ≠ "_" ∧ 0 < a.sz∧gi P f.type a∧O3 P fs b (o+a.sz)
 | _,_,_=>False
def mY (P:Program) (T:TypeId):Ty→Prop
 | .int k=>P.underlying T=some (.int k)
 | .bool=>P.underlying T=some .bool
 | .str=>P.underlying T=some .string
 | .slice e t=>P.underlying T=some (.slice e)∧gi P e t∧0 < t.sz∧(t = .int .u8→P.underlying e=some (.int .u8))
 | .agg t => ∃ fs,P.underlying T=some (.struct fs)∧O3 P fs.toList t 0
 | .err => ∃ ms,P.underlying T=some (.interface ms)
 | .fn=>True
 | .pt=>True
 | _=>False
def X2 (P:Program) (T:TypeId) (t:Ty):Prop:=(∃ s,t = .agg s)∧P.eqGuardType P.depth T=false ∧
 ∀(L:Lk) (x y:t.den) (cs ds:List Value) (w:World),RK L t x cs→RK L t y ds→(Op.equalIn 10000 T (mk t cs) (mk t ds)).run P w = .ok (bv t x y) w
structure gf (P:Program) (E:cO):Prop where
 ty : ∀ T t,dq E.ty T=some t→mY P T t∧gi P T t
 by_ : ∀ e nb i,dq E.by_ e=some nb→P.info? e=some i→i.bytes=nb∧0 < nb
 fns : ∀ g I,dq E.fns g=some I→P.funcs[I.g]? = some I.fn∧I.fn.body.isSome=true∧(I.fn.name == "runtime.NumGoroutine")=false
 eqs : ∀ T t,dq E.eqs T=some t→X2 P T t
def Ln (Pr:Nat→Nat→Prop) (w:World):Lk:=fun b o v=>Pr b o∧w.cell? ⟨b,o,none⟩=some v
def bB (γ:Nat→Option G) (r:Nat):aY→Option Nat
 | .box _ _=>match γ r with
  | some (.box b _)=>some b
  | _=>none
 | .row _ _ _ _=>match γ r with
  | some (.row _ _ v)=>v.ownBlock
  | _=>none
 | .old _ _ _=>none
 | .gone _ _ _=>none
 | .keepF _ _=>none
 | .rowP _ _=>none
def mb (L:Lk) (t:Ty) (xs:List t.den) (css:List (List Value)):Prop:=css.length=xs.length ∧ ∀ i (h:i < xs.length) (h':i < css.length),RK L t xs[i] css[i]
def ki (L:Lk) (Pr:Nat→Nat→Prop) (γ:Nat→Option G) (w:World) (r:Nat):aY→Prop
 | .box t c => ∃ b arr T,γ r=some (.box b t)∧w.heap[b]? = some (.cells arr T (0,0))∧RT L γ t c arr.toList
 | .row e t xs fr => ∃ v css,γ r=some (.row e t v)∧mb L t xs css∧w.ownsRow 0 e t.sz v xs.length css.flatten∧(fr=true → ∀ b,v.ownBlock=some b → ∀ o,o < xs.length*t.sz→Pr b o)
 | .old e t xs => ∃ v,γ r=some (.row e t v)∧RK L (.slice e t) xs [v]
 | .gone e t n => ∃ A c,γ r=some (.row e t (.slice A n c))
 | .keepF g caps => ∃ b vs,γ r=some (.box b .fn)∧L b 0 (.func (.func g) #[] vs.toArray)∧AR L γ caps vs
 | .rowP e l => ∃ b vs,γ r=some (.row e .pt (.slice (some ⟨b,0,none⟩) l.length l.length))∧AR L γ l vs ∧ ∀ j v,vs[j]? = some v→L b j v
def jo:aY→Nat→Prop
 | .row _ t xs true,o=>o < xs.length*t.sz
 | _,_=>False
structure bm (w0:World) (X:Nat→Prop) (Pr0:Nat→Nat→Prop) (sl:List SV) (get:Nat→Option aY) (γ:Nat→Option G) (Pr:Nat→Nat→Prop) (a:Act) (w:World):Prop where
 slots:ct (Ln Pr w) γ sl a.tmps.toList
 defers:a.defers=[]
 gs : ∀ r e t v,γ r=some (.row e t v) → ∃ A n c,v = .slice A n c
 wfs : ∀ r b t,γ r=some (.box b t)→d9 false t=true
 res : ∀ r x,get r=some x→ki (Ln Pr w) Pr γ w r x
 apart : ∀ r r' x x' b,get r=some x→get r'=some x'→r≠r'→bB γ r x=some b→bB γ r' x'≠some b
 loose : ∀ r x b,get r=some x→bB γ r x=some b → ∀ o,Pr b o→jo x o
 where_ : ∀ r x b,get r=some x→bB γ r x=some b→X b∨w0.heap.size≤b
 frame : ∀ k,k < w0.heap.size → ¬X k→w.heap[k]? = w0.heap[k]?
 size:w0.heap.size≤w.heap.size
 os:w.os=w0.os
 tape:w.tape=w0.tape
 output:w.output=w0.output
 prIn : ∀ b o,Pr b o→b < w.heap.size
 prOld : ∀ b,b < w0.heap.size → ¬X b → ∀ o,Pr b o→Pr0 b o
 pr0 : ∀ b o v,Ln Pr0 w0 b o v→Ln Pr w b o v
theorem zw : ∀(l:List SV) (n:Nat),gZ l n=(l[n]?).getD .undef
 | [],0=>rfl
 | [],n+1=>by simp[gZ]
 | x :: l,0=>rfl
 | x :: l,n+1=>by simp[gZ,zw l n]
theorem U0 {L:Lk} {γ:Nat→Option G} : ∀ v:Value,RV L γ (HI v) v:=by
 intro v
 unfold HI
 split
 ·exact RV.val (t := .int _) (cs:=[.int _ _]) rfl
 ·exact RV.val (t := .bool) (cs:=[.bool _]) rfl
 ·exact RV.val (t := .str) (cs:=[.string _]) rfl
 ·exact RV.nilS
 ·exact RV.undef
theorem KO {L:Lk} {γ:Nat→Option G} {sl:List SV} {a:Act} (h:ct L γ sl a.tmps.toList) : ∀ x:Operand,RV L γ (ev sl x) (a.eval x)
 | .tmp t=>by
  simp only[ev,zw,Act.eval]
  cases hs:sl[t]? with
  | none=>exact RV.undef
  | some v =>
   obtain⟨u,h1,h2⟩:=xO h hs
   have:a.tmps.getD t undef=u:=by
    rw[Array.getD_eq_getD_getElem?,←Array.getElem?_toList,h1]
    rfl
   rw[this]
   exact h2
 | .const v=>U0 v
 | .func f=>by
  have:=RV.fn (L:=L) (γ:=γ) (g:=f) ct.nil
  exact this
 | .global _=>RV.undef
theorem SH {L:Lk} {γ:Nat→Option G} {sl:List SV} {a:Act} (h:ct L γ sl a.tmps.toList) : ∀ xs:List Operand,ct L γ (xs.map (ev sl)) (xs.map a.eval)
 | [] => .nil
 | x :: xs => .cons (KO h x) (SH h xs)
theorem O4 {L:Lk} {γ:Nat→Option G} : ∀ {l:List SV} {us:List Value},ct L γ l us → ∀ {d:Nat} {v:SV} {u:Value},RV L γ v u→ct L γ (dA l d v) (us.set d u)
 | _,_,.nil,_,_,_,_ => .nil
 | _,_,.cons _ k,0,_,_,hv => .cons hv k
 | _,_,.cons h k,d+1,_,_,hv => .cons h (O4 k hv)
section
variable {P:Program} {o:Oper} {a:Act} {w w':World} {next:Act→World→Prop} {Q:Exit→Act→World→Prop} {v:Value} {s:Sem Value}
theorem X3 (ho:execOp a.eval o=(do pure (.value (←s)))) (hs:s.run P w = .ok v w') (h:next (a.put o.dst v) w'):Oper.wp P o a w next Q:=by
 unfold Oper.wp
 rw[ho]
 simp only[Sem.run_bind,hs,Result.andThen_ok,Sem.run_pure]
 exact h
end
def EM (P:Program) (w0:World) (X:Nat→Prop) (Pr0:Nat→Nat→Prop) (o:Oper) (sl:List SV) (get:Nat→Option aY) (γ:Nat→Option G) (Pr:Nat→Nat→Prop) (r0:Nat) (a:Act) (w:World) (v:SV) (get':Nat→Option aY):Prop :=
 ∀ next Q,(∀ v' γ' Pr' w',RV (Ln Pr' w') γ' v v'→bm w0 X Pr0 sl get' γ' Pr' a w'→(∀ r,¬(r0≤r∧r < r0+64)→γ' r=γ r)→next (a.put o.dst v') w')→Oper.wp P o a w next Q
section
variable {P:Program} {w0:World} {X:Nat→Prop} {Pr0:Nat→Nat→Prop} {o:Oper} {sl:List SV} {get:Nat→Option aY} {γ:Nat→Option G} {Pr:Nat→Nat→Prop} {r0:Nat} {a:Act} {w:World}
theorem bd {s:Sem Value} {u:Value} {v:SV} (hI:bm w0 X Pr0 sl get γ Pr a w) (ho:execOp a.eval o=(do pure (.value (←s)))) (hs:s.run P w = .ok u w) (hv:RV (Ln Pr w) γ v u) :
  EM P w0 X Pr0 o sl get γ Pr r0 a w v get:=fun next Q h=>X3 ho hs (h u γ Pr w hv hI (fun _ _=>rfl))
theorem oO {get':Nat→Option aY} {Pr':Nat→Nat→Prop} {u:Value} {v:SV} (hI:bm w0 X Pr0 sl get' γ Pr' a w) (ho:(execOp a.eval o).run P w = .ok (.value u) w) (hv:RV (Ln Pr' w) γ v u) :
  EM P w0 X Pr0 o sl get γ Pr r0 a w v get':=fun next Q h=>by
 unfold Oper.wp
 rw[ho]
 exact h u γ Pr' w hv hI (fun _ _=>rfl)
theorem jS {get':Nat→Option aY} {γ':Nat→Option G} {Pr':Nat→Nat→Prop} {w':World} {u:Value} {v:SV} (hI:bm w0 X Pr0 sl get' γ' Pr' a w') (ho:(execOp a.eval o).run P w = .ok (.value u) w') (hv:RV (Ln Pr' w') γ' v u)
  (hγ : ∀ r,¬(r0≤r∧r < r0+64)→γ' r=γ r):EM P w0 X Pr0 o sl get γ Pr r0 a w v get':=fun next Q h=>by
 unfold Oper.wp
 rw[ho]
 exact h u γ' Pr' w' hv hI hγ
end
end Go.Proofs.YtnodjiikdgmeaaaGreatDoor.Abs
set_option linter.unusedSectionVars false
namespace Go.Proofs.YtnodjiikdgmeaaaGreatDoor.Abs
open Go
abbrev cI:SV→Up→Option (SV×Up):=fun v u=>some (v,u)
section
variable {R:Type} {E:cO} {call:(I:an)→List SV→aH→Option (I.sh.den×I.bx.den)} {K:SV→Up→Option R}
theorem EN {op:BinOp} {k:IntKind} {a b:Int}:pE op k a b K=(pE op k a b cI).bind fun p=>K p.1 p.2:=by
 cases op <;> simp only[pE] <;> ((repeat' split) <;> first | rfl | (simp_all; done))
theorem U1 {op:BinOp} {a b:ByteArray}:xH op a b K=(xH op a b cI).bind fun p=>K p.1 p.2:=by
 cases op <;> simp only[xH] <;> ((repeat' split) <;> first | rfl | (simp_all; done))
theorem K9 {op:BinOp} {T:TypeId} {x y:SV}:xI E op T x y K=(xI E op T x y cI).bind fun p=>K p.1 p.2:=by
 unfold xI
 split
 ·split
  ·exact EN
  ·exact EN
  ·split
   ·exact EN
   ·rfl
 ·exact U1
 ·split <;> rfl
 ·split
  ·split <;> rfl
  ·rfl
theorem La {op:BinOp} {T:TypeId} {x:SV}:xJ E op T x K=(xJ E op T x cI).bind fun p=>K p.1 p.2:=by
 unfold xJ
 split
 ·split <;> rfl
 ·rfl
theorem U2 {s:ByteArray} {lo hi:Option Int}:xK s lo hi K=(xK s lo hi cI).bind fun p=>K p.1 p.2:=by
 cases lo <;> cases hi <;> simp only[xK] <;> ((repeat' split) <;> first | rfl | (simp_all; done))
theorem ph {e:TypeId} {t:Ty} {xs:List t.den} {lo hi:Option Int} {u:Up}:lC e t xs lo hi u K=(lC e t xs lo hi u cI).bind fun p=>K p.1 p.2:=by
 cases lo <;> cases hi <;> simp only[lC] <;> ((repeat' split) <;> first | rfl | (simp_all; done))
theorem kR {c:Prop} [Decidable c] {x:Option R} {y:Option (SV×Up)} (h:x=y.bind fun p=>K p.1 p.2):(if c then x else none)=(if c then y else none).bind fun p=>K p.1 p.2:=by
 split
 ·exact h
 ·rfl
theorem IT {ty:Ty} {lo hi:Option SV} {x:SV} {res:aH} {r0:Nat}:ut ty lo hi x res r0 K=(ut ty lo hi x res r0 cI).bind fun p=>K p.1 p.2:=by
 unfold ut
 split
 ·exact U2
 ·split
  ·exact kR (kR (kR rfl))
  ·exact kR ph
  ·exact kR ph
  ·rfl
 ·split
  ·exact ph
  ·rfl
 ·rfl
theorem IV {ty:Ty} {lo hi:Option SV} {x:SV} {res:aH}:uu ty lo hi x res K=(uu ty lo hi x res cI).bind fun p=>K p.1 p.2:=by
 unfold uu
 split
 ·split
  ·exact ph
  ·rfl
 ·rfl
theorem Lb {lo hi:Option Operand} {ty:Ty} {x:SV} {is:List SV} {res:aH}:xL lo hi ty x is res K=(xL lo hi ty x is res cI).bind fun p=>K p.1 p.2:=by
 unfold xL
 split
 ·split
  ·exact kR (kR (kR rfl))
  ·rfl
 ·rfl
theorem SI {argTypes:Array TypeId} {v:SV} {res:aH}:xN E argTypes v res K=(xN E argTypes v res cI).bind fun p=>K p.1 p.2:=by
 unfold xN
 split
 ·split
  ·exact kR rfl
  ·rfl
 ·rfl
theorem W9 {argTypes:Array TypeId} {v:SV} {res:aH}:FT E argTypes v res K=(FT E argTypes v res cI).bind fun p=>K p.1 p.2:=by
 unfold FT
 split
 ·rfl
 ·split
  ·exact kR rfl
  ·rfl
 ·split
  ·rfl
  ·split
   ·split
    ·exact kR rfl
    ·exact kR rfl
    ·rfl
   ·rfl
 ·rfl
theorem Qs {argTypes:Array TypeId} {s x:SV} {res:aH} {r0:Nat}:q4 E argTypes s x res r0 K=(q4 E argTypes s x res r0 cI).bind fun p=>K p.1 p.2:=by
 unfold q4
 split
 ·split
  ·split
   ·exact kR rfl
   ·rfl
  ·rfl
 ·rfl
theorem Lc {f:Int→Int→Int} {v:SV} {l:List SV}:uJ f v l K=(uJ f v l cI).bind fun p=>K p.1 p.2:=by
 unfold uJ
 split
 ·split <;> rfl
 ·rfl
theorem FU {b:Builtin} {argTypes:Array TypeId} {T:TypeId} {args:List SV} {res:aH} {r0:Nat}:q5 E b argTypes T args res r0 K=(q5 E b argTypes T args res r0 cI).bind fun p=>K p.1 p.2:=by
 unfold q5
 split
 ·split
  ·exact W9
  ·rfl
 ·split
  ·exact Qs
  ·rfl
 ·split
  ·exact Lc
  ·rfl
 ·split
  ·exact Lc
  ·rfl
 ·split
  ·exact SI
  ·rfl
 ·rfl
theorem IW {T:TypeId} {n:Nat} {ps:Array (Nat×Operand)} {vs:List SV} {res:aH} {r0:Nat}:uw E T n ps vs res r0 K=(uw E T n ps vs res r0 cI).bind fun p=>K p.1 p.2:=by
 unfold uw
 split
 ·split
  ·rfl
  ·rfl
 ·split
  ·split
   ·rfl
   ·rfl
  ·rfl
theorem IX {g key:Nat} {args:List SV} {res:aH} {r0:Nat}:gR E call g key args res r0 K=(gR E call g key args res r0 cI).bind fun p=>K p.1 p.2:=by
 unfold gR
 split
 ·rfl
 ·split
  ·rfl
  ·split
   ·rfl
   ·dsimp only
    split
    ·generalize call _ _ _=z0
     cases z0 with
     | none=>rfl
     | some z =>
      simp only[Option.bind_some]
      split <;> rfl
    ·rfl
theorem Ld {g:Nat} {args:List SV} {res:aH} {r0:Nat}:jA E call g args res r0 K=(jA E call g args res r0 cI).bind fun p=>K p.1 p.2:=by
 unfold jA
 split
 ·exact IX
 ·rename_i s hs
  cases s.dec res args with
  | none=>rfl
  | some b =>
   simp only[Option.bind_some]
   split <;> exact IX
theorem Le {o:Oper} {vs:List SV} {res:aH} {r0:Nat}:cK E call o vs res r0 K=(cK E call o vs res r0 cI).bind fun p=>K p.1 p.2:=by
 obtain⟨dst,op,ty,pos,after,guard⟩:=o
 cases op
 case makeFunc fn first captured=>cases fn <;> rcases vs with _ | ⟨v1,_ | ⟨v2,_ | ⟨v3,_ | ⟨v4,vs⟩⟩⟩⟩ <;> first | rfl | (unfold cK; dsimp only; repeat' (first | rfl | exact K9 | exact La | exact FU | exact IT | exact IV | exact IW | exact Lb | exact Ld | exact ph | refine kR ?_ | split))
 all_goals
  rcases vs with _ | ⟨v1,_ | ⟨v2,_ | ⟨v3,_ | ⟨v4,vs⟩⟩⟩⟩ <;> first | rfl | (unfold cK; dsimp only; repeat' (first | rfl | exact K9 | exact La | exact FU | exact IT | exact IV | exact IW | exact Lb | exact Ld | exact ph | refine kR ?_ | split))
theorem Bu {o:Oper} {vs:List SV} {res:aH} {r0:Nat} {z:R} (h:cK E call o vs res r0 K=some z) : ∃ v u,cK E call o vs res r0 cI=some (v,u)∧K v u=some z:=by
 rw[Le,Option.bind_eq_some_iff] at h
 obtain⟨⟨v,u⟩,h1,h2⟩:=h
 exact⟨v,u,h1,h2⟩
end
open Go Go.RowKit
def bq (get:Nat→Option aY):Up→Nat→Option aY
 | []=>get
 | (r,x) :: u=>bq (fun s=>if s=r then x else get s) u
theorem eP {L:Lk} {γ:Nat→Option G} {k:IntKind} {n:Int}:RV L γ (.val (.int k) n) (.int k n):=RV.val (t := .int k) (cs:=[.int k n]) rfl
theorem iO {L:Lk} {γ:Nat→Option G} {b:Bool}:RV L γ (.val .bool b) (.bool b):=RV.val (t := .bool) (cs:=[.bool b]) rfl
theorem q7 {L:Lk} {γ:Nat→Option G} {s:ByteArray}:RV L γ (.val .str s) (.string s):=RV.val (t := .str) (cs:=[.string s]) rfl
theorem eA {L:Lk} {γ:Nat→Option G} {k:IntKind} {n:Int} {u:Value} (h:RV L γ (.val (.int k) n) u):u = .int k n:=by
 cases h with
 | val h=>rw[show _=[Value.int k n] from h]; rfl
theorem iP {L:Lk} {γ:Nat→Option G} {b:Bool} {u:Value} (h:RV L γ (.val .bool b) u):u = .bool b:=by
 cases h with
 | val h=>rw[show _=[Value.bool b] from h]; rfl
theorem fk {L:Lk} {γ:Nat→Option G} {s:ByteArray} {u:Value} (h:RV L γ (.val .str s) u):u = .string s:=by
 cases h with
 | val h=>rw[show _=[Value.string s] from h]; rfl
section
variable {P:Program} {w:World} {L:Lk} {γ:Nat→Option G} {v:SV} {u:Up}
theorem SJ {op:BinOp} {k:IntKind} {a b:Int} {T:TypeId} (h:pE op k a b cI=some (v,u)):u=[] ∧ ∃ x,(binOp op T (.int k a) (.int k b)).run P w = .ok x w∧RV L γ v x:=by
 cases op <;> simp only[pE,cI] at h
 case quo =>
  split at h
  ·cases h
  ·cases h
   exact⟨rfl,_,by simp[go_sem,Op.intDiv, *],eP⟩
 case rem =>
  split at h
  ·cases h
  ·cases h
   exact⟨rfl,_,by simp[go_sem,Op.intDiv, *],eP⟩
 case shl =>
  split at h
  ·cases h
  ·cases h
   exact⟨rfl,_,by rw[binOp_shl]; simp[Op.shift, *],eP⟩
 case shr =>
  split at h
  ·cases h
  ·cases h
   exact⟨rfl,_,by rw[binOp_shr]; simp[Op.shift, *],eP⟩
 all_goals
  cases h
  refine⟨rfl,_,?_,by first | exact eP | exact iO⟩
  simp[go_sem,Op.intArith] <;> rfl
theorem Lf {op:BinOp} {k k':IntKind} {a b:Int} {T:TypeId} (ho:op = .shl∨op = .shr) (h:pE op k a b cI=some (v,u)):u=[] ∧ ∃ x,(binOp op T (.int k a) (.int k' b)).run P w = .ok x w∧RV L γ v x:=by
 rcases ho with rfl | rfl <;> simp only[pE,cI] at h <;> split at h <;> cases h
 ·exact⟨rfl,_,by rw[binOp_shl]; simp[Op.shift, *],eP⟩
 ·exact⟨rfl,_,by rw[binOp_shr]; simp[Op.shift, *],eP⟩
theorem SK {op:BinOp} {a b:ByteArray} {T:TypeId} (h:xH op a b cI=some (v,u)):u=[] ∧ ∃ x,(binOp op T (.string a) (.string b)).run P w = .ok x w∧RV L γ v x:=by
 cases op <;> simp only[xH,cI] at h <;> try (cases h; done)
 case add =>
  split at h
  ·rename_i hs
   cases h
   refine⟨rfl,_,?_,q7⟩
   rw[binOp_string_add]
   have : ¬((a.size+b.size:Nat):Int) > IntKind.i64.max:=by simp[IntKind.max,IntKind.signed,IntKind.bits]; omega
   simp only[Op.stringOp,if_neg this,Sem.run_pure]
  ·cases h
 all_goals
  cases h
  exact⟨rfl,_,by simp[go_sem],iO⟩
end
end Go.Proofs.YtnodjiikdgmeaaaGreatDoor.Abs
namespace Go.Proofs.YtnodjiikdgmeaaaGreatDoor.Abs
open Go Go.RowKit
def eR (c cs:List Value) (o:Nat):Prop := ∀ j u,c[j]? = some u→cs[o+j]? = some u
theorem eR.refl (c:List Value):eR c c 0:=fun j u h=>by rwa[Nat.zero_add]
theorem eR.trans {a b c:List Value} {o o':Nat} (h:eR a b o) (k:eR b c o'):eR a c (o'+o):=fun j u hj=>by
 have:=k _ _ (h j u hj)
 rwa[←Nat.add_assoc] at this
theorem eR.left (c d:List Value):eR c (c++d) 0:=fun j u h=>by
 have:j < c.length:=(List.getElem?_eq_some_iff.1 h).1
 rw[Nat.zero_add,List.getElem?_append_left this]
 exact h
theorem eR.right (c d:List Value):eR d (c++d) c.length:=fun j u h=>by
 rw[List.getElem?_append_right (by omega)]
 simpa using h
section
variable {L:Lk} {γ:Nat→Option G}
theorem CY : ∀ {t:Ty} {x:t.den} {f:Nat} {v:SV},oL t x f=some v → ∃ s y o,v = .val s y∧dv t f=some (o,s) ∧ ∀ cs,RK L t x cs → ∃ c,RK L s y c∧eR c cs o
 | .pair a b,x,0,v,h=>by
  cases h
  refine⟨a,x.1,0,rfl,rfl,fun cs hr => ?_⟩
  obtain⟨c,d,rfl,h1,h2⟩:=hr
  exact⟨c,h1,eR.left c d⟩
 | .pair a b,x,n+1,v,h=>by
  obtain⟨s,y,o,hv,ho,hc⟩:=CY (t:=b) (x:=x.2) (f:=n) h
  refine⟨s,y,a.sz+o,hv,by simp[dv,ho],fun cs hr => ?_⟩
  obtain⟨c,d,rfl,h1,h2⟩:=hr
  obtain⟨c',h3,h4⟩:=hc d h2
  refine⟨c',h3,?_⟩
  have:=h4.trans (eR.right c d)
  rwa[eE h1] at this
 | .int _,_,_,_,h=>by simp[oL] at h
 | .bool,_,_,_,h=>by simp[oL] at h
 | .err,_,_,_,h=>by simp[oL] at h
 | .fn,_,_,_,h=>by simp[oL] at h
 | .pt,_,_,_,h=>by simp[oL] at h
 | .str,_,_,_,h=>by simp[oL] at h
 | .unit,_,_,_,h=>by simp[oL] at h
 | .agg _,_,_,_,h=>by simp[oL] at h
 | .slice _ _,_,_,_,h=>by simp[oL] at h
theorem HM : ∀ {t:Ty} {l:List SV} {cs:List Value},gC L γ t l cs → ∀ {f:Nat} {v:SV},l[f]? = some v → ∃ s o c,dv t f=some (o,s)∧RT L γ s v c∧eR c cs o
 | _,_,_,.nil,f,v,h=>by simp at h
 | _,_,_,.cons (a:=a) (c:=c) (d:=d) hv k,0,v,h=>by
  simp at h
  subst h
  exact⟨a,0,c,rfl,hv,eR.left c d⟩
 | _,_,_,.cons (a:=a) (c:=c) (d:=d) hv k,f+1,v,h=>by
  obtain⟨s,o,c',h1,h2,h3⟩:=HM k (f:=f) (v:=v) (by simpa using h)
  refine⟨s,a.sz+o,c',by simp[dv,h1],h2,?_⟩
  have:=h3.trans (eR.right c d)
  rwa[iM hv] at this
def Qt:Ty→Prop
 | .pair _ b=>Qt b
 | .unit=>True
 | _=>False
theorem DV : ∀ {t:Ty} {x:t.den} {cs:List Value},RK L t x cs→Qt t→gC L γ t (fieldsOf t x) cs
 | .pair a b,x,cs,h,hf=>by
  obtain⟨c,d,rfl,h1,h2⟩:=h
  exact .cons (.val h1) (DV h2 hf)
 | .unit,x,cs,h,_=>by
  rw[show cs=[] from h]
  exact .nil
 | .int _,_,_,_,hf=>hf.elim
 | .bool,_,_,_,hf=>hf.elim
 | .err,_,_,_,hf=>hf.elim
 | .fn,_,_,_,hf=>hf.elim
 | .pt,_,_,_,hf=>hf.elim
 | .str,_,_,_,hf=>hf.elim
 | .agg _,_,_,_,hf=>hf.elim
 | .slice _ _,_,_,_,hf=>hf.elim
theorem Lg {t:Ty} {v u:SV} {f:Nat} {cs:List Value} (h:RT L γ t v cs) (hg:zq v f=some u) : ∃ t' s o c,t = .agg t'∧dv t' f=some (o,s)∧RT L γ s u c∧eR c cs o:=by
 cases h with
 | @val t x cs hk =>
  cases t with
  | agg t' =>
   obtain⟨s,y,o,rfl,ho,hc⟩:=CY (L:=L) (show oL t' x f=some u from hg)
   obtain⟨c,h1,h2⟩:=hc cs hk
   exact⟨t',s,o,c,rfl,ho,.val h1,h2⟩
  | _=>simp[zq] at hg
 | @strct t' l cs hk =>
  obtain⟨s,o,c,h1,h2,h3⟩:=HM hk (show l[f]? = some u from hg)
  exact⟨t',s,o,c,rfl,h1,h2,h3⟩
 | nilS=>simp[zq] at hg
 | row _=>simp[zq] at hg
theorem IY : ∀ {p:List Nat} {t:Ty} {v u:SV} {cs:List Value},RT L γ t v cs→xF p v=some u → ∃ s o c,fC t p=some (o,s)∧RT L γ s u c∧eR c cs o
 | [],t,v,u,cs,h,hg=>by
  cases hg
  exact⟨t,0,cs,by cases t <;> rfl,h,eR.refl cs⟩
 | f :: p,t,v,u,cs,h,hg=>by
  simp only[xF,Option.bind_eq_some_iff] at hg
  obtain⟨z,hz,hp⟩:=hg
  obtain⟨t',s,o,c,rfl,h1,h2,h3⟩:=Lg h hz
  obtain⟨s',o',c',h4,h5,h6⟩:=IY h2 hp
  exact⟨s',o+o',c',by simp[fC,h1,h4],h5,h6.trans h3⟩
theorem O5 : ∀ {p:List Nat} {t:Ty} {x:t.den} {u:SV},pC p t x=some u → ∃ s y o,u = .val s y∧fC t p=some (o,s) ∧ ∀ cs,RK L t x cs → ∃ c,RK L s y c∧eR c cs o
 | [],t,x,u,h=>by
  cases h
  exact⟨t,x,0,rfl,by cases t <;> rfl,fun cs hr=>⟨cs,hr,eR.refl cs⟩⟩
 | f :: p,.agg t,x,u,h=>by
  simp only[pC] at h
  split at h
  ·rename_i s y hg
   obtain⟨s1,y1,o,he,ho,hc⟩:=CY (L:=L) hg
   cases he
   obtain⟨s',y',o',hu,ho',hc'⟩:=O5 h
   refine⟨s',y',o+o',hu,by simp[fC,ho,ho'],fun cs hr => ?_⟩
   obtain⟨c,h1,h2⟩:=hc cs hr
   obtain⟨c',h3,h4⟩:=hc' c h1
   exact⟨c',h3,h4.trans h2⟩
  ·cases h
 | f :: p,.int _,_,_,h=>by simp[pC] at h
 | f :: p,.bool,_,_,h=>by simp[pC] at h
 | f :: p,.err,_,_,h=>by simp[pC] at h
 | f :: p,.fn,_,_,h=>by simp[pC] at h
 | f :: p,.pt,_,_,h=>by simp[pC] at h
 | f :: p,.str,_,_,h=>by simp[pC] at h
 | f :: p,.unit,_,_,h=>by simp[pC] at h
 | f :: p,.pair _ _,_,_,h=>by simp[pC] at h
 | f :: p,.slice _ _,_,_,h=>by simp[pC] at h
theorem Qu {t:Ty} {v:SV} {cs:List Value} (h:RT L γ t v cs):RV L γ v (mk t cs):=by
 cases h with
 | val h=>exact .val h
 | nilS=>exact .nilS
 | row h=>exact .row h
 | strct h=>exact .strct h
theorem EO : ∀ {t:Ty} {f o:Nat} {s:Ty},dv t f=some (o,s)→o+s.sz≤t.sz
 | .pair a b,0,o,s,h=>by
  cases h
  simp[Ty.sz]
 | .pair a b,n+1,o,s,h=>by
  simp only[dv,Option.map_eq_some_iff] at h
  obtain⟨q,hq,he⟩:=h
  cases he
  have:=EO hq
  simp only[Ty.sz]
  omega
 | .int _,_,_,_,h=>by simp[dv] at h
 | .bool,_,_,_,h=>by simp[dv] at h
 | .err,_,_,_,h=>by simp[dv] at h
 | .fn,_,_,_,h=>by simp[dv] at h
 | .pt,_,_,_,h=>by simp[dv] at h
 | .str,_,_,_,h=>by simp[dv] at h
 | .unit,_,_,_,h=>by simp[dv] at h
 | .agg _,_,_,_,h=>by simp[dv] at h
 | .slice _ _,_,_,_,h=>by simp[dv] at h
theorem Bv : ∀ {t:Ty} {p:List Nat} {f o o':Nat} {s s' u:Ty},fC t p=some (o,s)→s = .agg u→dv u f=some (o',s')→fC t (p++[f])=some (o+o',s')
 | t,[],f,o,o',s,s',u,h,hs,hf=>by
  have:(0,t)=(o,s):=by cases t <;> simpa[fC] using h
  cases this
  subst hs
  show(dv u f).bind _=_
  rw[hf]
  simp[fC]
 | .agg t,g :: p,f,o,o',s,s',u,h,hs,hf=>by
  simp only[fC,Option.bind_eq_some_iff,Option.map_eq_some_iff] at h
  obtain⟨q,hq,q',hq',he⟩:=h
  cases he
  have:=Bv hq' hs hf
  simp only[List.cons_append,fC,hq,Option.bind_some,this,Option.map_some]
  simp[Nat.add_assoc]
 | .int _,_ :: _,_,_,_,_,_,_,h,_,_=>by simp[fC] at h
 | .bool,_ :: _,_,_,_,_,_,_,h,_,_=>by simp[fC] at h
 | .err,_ :: _,_,_,_,_,_,_,h,_,_=>by simp[fC] at h
 | .fn,_ :: _,_,_,_,_,_,_,h,_,_=>by simp[fC] at h
 | .pt,_ :: _,_,_,_,_,_,_,h,_,_=>by simp[fC] at h
 | .str,_ :: _,_,_,_,_,_,_,h,_,_=>by simp[fC] at h
 | .unit,_ :: _,_,_,_,_,_,_,h,_,_=>by simp[fC] at h
 | .pair _ _,_ :: _,_,_,_,_,_,_,h,_,_=>by simp[fC] at h
 | .slice _ _,_ :: _,_,_,_,_,_,_,h,_,_=>by simp[fC] at h
end
section
variable {P:Program}
theorem xP : ∀ {fs:List Field} {t:Ty} {o:Nat},O3 P fs t o → ∀ {f o':Nat} {s:Ty},dv t f=some (o',s) → ∃ fl,fs[f]? = some fl∧fl.offset=o+o'∧0 < s.sz∧gi P fl.type s
 | [],t,o,h,f,o',s,hf=>by
  cases t <;> first | exact h.elim | simp[dv] at hf
 | fl :: fs,.pair a b,o,h,0,o',s,hf=>by
  cases hf
  exact⟨fl,rfl,h.1,h.2.2.1,h.2.2.2.1⟩
 | fl :: fs,.pair a b,o,h,f+1,o',s,hf=>by
  simp only[dv,Option.map_eq_some_iff] at hf
  obtain⟨q,hq,he⟩:=hf
  cases he
  obtain⟨g,h1,h2,h3⟩:=xP h.2.2.2.2 hq
  exact⟨g,by simpa using h1,by omega,h3⟩
 | fl :: fs,.int _,_,h,_,_,_,_=>h.elim
 | fl :: fs,.bool,_,h,_,_,_,_=>h.elim
 | fl :: fs,.err,_,h,_,_,_,_=>h.elim
 | fl :: fs,.str,_,h,_,_,_,_=>h.elim
 | fl :: fs,.unit,_,h,_,_,_,_=>h.elim
 | fl :: fs,.agg _,_,h,_,_,_,_=>h.elim
 | fl :: fs,.slice _ _,_,h,_,_,_,_=>h.elim
theorem gi.isAgg {T:TypeId} {t:Ty} (h:gi P T t) (w:World):(isAgg T).run P w = .ok (pG t) w:=by
 obtain⟨d,hd,ha⟩:=h.agg
 rw[←ha]
 cases d <;> simp[Go.isAgg,Go.underlying,hd,UZ]
theorem gi.sizeOf {T:TypeId} {t:Ty} (h:gi P T t) (w:World):(sizeOf T).run P w = .ok t.sz w:=by
 obtain⟨i,hi,hs,_⟩:=h.info
 simp[Go.sizeOf,typeInfo,hi,hs]
theorem Bw {c cs:List Value} {o:Nat} (h:eR c cs o):cs.toArray.extract o (o+c.length)=c.toArray:=by
 apply Array.toList_inj.1
 rw[Array.toList_extract,List.extract_eq_take_drop]
 simp only[Nat.add_sub_cancel_left]
 apply List.ext_getElem?
 intro j
 rw[List.getElem?_take,List.getElem?_drop]
 by_cases hj:j < c.length
 ·rw[if_pos hj]
  have:=h j _ (List.getElem?_eq_getElem hj)
  simp[this]
 ·rw[if_neg hj]
  simp[List.getElem?_eq_none (show c.length≤j by omega)]
theorem HN {T:TypeId} {s:Ty} {c cs:List Value} {o:Nat} (h:gi P T s) (hl:c.length=s.sz) (hs:eR c cs o) (w:World):(part T cs.toArray o).run P w = .ok (mk s c) w:=by
 simp only[part,Sem.run_bind,h.isAgg,Result.andThen_ok]
 rcases h.one with h1 | ⟨u,rfl⟩
 ·by_cases ha:pG s=true
  ·obtain⟨u,rfl⟩ : ∃ u,s = .agg u:=by cases s <;> simp_all [pG]
   simp only[pG,if_true,Sem.run_bind,h.sizeOf,Result.andThen_ok,Sem.run_pure]
   rw[←hl,Bw hs]
   rfl
  ·rw[if_neg ha]
   obtain⟨x,rfl⟩:=List.length_eq_one_iff.1 (hl.trans h1)
   have:=hs 0 x rfl
   simp only[Nat.add_zero] at this
   simp only[List.getElem?_toArray,this,Sem.run_pure]
   cases s <;> first | rfl | (simp[pG] at ha)
 ·simp only[pG,if_true,Sem.run_bind,h.sizeOf,Result.andThen_ok,Sem.run_pure]
  rw[←hl,Bw hs]
  rfl
end
end Go.Proofs.YtnodjiikdgmeaaaGreatDoor.Abs
namespace Go.Proofs.YtnodjiikdgmeaaaGreatDoor.Abs
open Go Go.RowKit
theorem oP {L L':Lk} (hL : ∀ b o v,L b o v→L' b o v) {t:Ty} {xs:List t.den} {css:List (List Value)} (h:mb L t xs css):mb L' t xs css :=
 ⟨h.1,fun i hi hi'=>gT hL (h.2 i hi hi')⟩
theorem q8 {γ γ':Nat→Option G} {r:Nat} {x:aY} (h:γ' r=γ r):bB γ' r x=bB γ r x:=by
 cases x <;> simp only[bB,h]
theorem ki.lt {L:Lk} {Pr:Nat→Nat→Prop} {γ:Nat→Option G} {w:World} {r:Nat} {x:aY} (h:ki L Pr γ w r x) {b:Nat} (hb:bB γ r x=some b):b < w.heap.size:=by
 cases x with
 | box t c =>
  obtain⟨b',arr,T,hg,hh,_⟩:=h
  simp only[bB,hg,Option.some.injEq] at hb
  subst hb
  exact(Array.getElem?_eq_some_iff.1 hh).1
 | row e t xs fr =>
  obtain⟨v,css,hg,_,ho,_⟩:=h
  simp only[bB,hg] at hb
  exact(ho.lt b hb).2
 | old e t xs=>cases hb
 | gone e t n=>cases hb
 | keepF g caps=>cases hb
 | rowP g caps=>cases hb
theorem ki.γsome {L:Lk} {Pr:Nat→Nat→Prop} {γ:Nat→Option G} {w:World} {r:Nat} {x:aY} (h:ki L Pr γ w r x) : ∃ g,γ r=some g:=by
 cases x with
 | box t c=>obtain⟨b',arr,T,hg,_⟩:=h; exact⟨_,hg⟩
 | row e t xs fr=>obtain⟨v,css,hg,_⟩:=h; exact⟨_,hg⟩
 | old e t xs=>obtain⟨v,hg,_⟩:=h; exact⟨_,hg⟩
 | gone e t n=>obtain⟨A,c,hg⟩:=h; exact⟨_,hg⟩
 | keepF g caps=>obtain⟨b,vs,hg,_⟩:=h; exact⟨_,hg⟩
 | rowP g caps=>obtain⟨b,vs,hg,_⟩:=h; exact⟨_,hg⟩
theorem ki.kept {L L':Lk} {Pr Pr':Nat→Nat→Prop} {γ γ':Nat→Option G} {w w':World} {row:Option Nat} {r:Nat} {x:aY} (h:ki L Pr γ w r x) (hL : ∀ b o v,L b o v→L' b o v)
  (hP : ∀ b o,Pr b o→Pr' b o) (hγ : ∀ r g,γ r=some g→γ' r=some g) (hg:w.grownBy w' row) (hne : ∀ b,row=some b→bB γ r x≠some b):ki L' Pr' γ' w' r x:=by
 cases x with
 | box t c =>
  obtain⟨b,arr,T,hk,hh,hc⟩:=h
  refine⟨b,arr,T,hγ _ _ hk,?_,q6 hL hγ hc⟩
  rw[hg.block b (Array.getElem?_eq_some_iff.1 hh).1 (fun e=>hne b e.symm (by simp[bB,hk]))]
  exact hh
 | row e t xs fr =>
  obtain⟨v,css,hk,he,ho,hf⟩:=h
  refine⟨v,css,hγ _ _ hk,oP hL he,ho.kept hg ?_,fun h b hb o hoo=>hP _ _ (hf h b hb o hoo)⟩
  cases hb:v.ownBlock with
  | none=>exact .inl rfl
  | some b=>exact .inr fun e=>hne b e.symm (by simp[bB,hk,hb])
 | old e t xs =>
  obtain⟨v,hk,hr⟩:=h
  exact⟨v,hγ _ _ hk,gT hL hr⟩
 | gone e t n =>
  obtain⟨A,c,hk⟩:=h
  exact⟨A,c,hγ _ _ hk⟩
 | keepF g caps =>
  obtain⟨b,vs,hk,hc,hr⟩:=h
  exact⟨b,vs,hγ _ _ hk,hL _ _ _ hc,ma hL hγ hr⟩
 | rowP e l =>
  obtain⟨b,vs,hk,hr,hc⟩:=h
  exact⟨b,vs,hγ _ _ hk,ma hL hγ hr,fun j v hj=>hL _ _ _ (hc j v hj)⟩
section
variable {w0:World} {X:Nat→Prop} {Pr0:Nat→Nat→Prop} {sl:List SV} {get:Nat→Option aY} {γ γ':Nat→Option G} {Pr Pr':Nat→Nat→Prop} {a:Act} {w w':World}
theorem mZ (hin : ∀ b o,Pr b o→b < w.heap.size) {row:Option Nat} (hg:w.grownBy w' row) (hP : ∀ b o,Pr b o→Pr' b o)
  (hcell : ∀ b o v,row=some b→Pr b o→w.cell? ⟨b,o,none⟩=some v→w'.cell? ⟨b,o,none⟩=some v) : ∀ b o v,Ln Pr w b o v→Ln Pr' w' b o v:=by
 intro b o v ⟨h1,h2⟩
 refine⟨hP _ _ h1,?_⟩
 by_cases hr:row=some b
 ·exact hcell b o v hr h1 h2
 ·rw[World.cell?_of_block (hg.block b (hin _ _ h1) (fun e=>hr e.symm))]
  exact h2
theorem bm.turn (hI:bm w0 X Pr0 sl get γ Pr a w) (k:Nat) (x':Option aY) (row:Option Nat) (hg:w.grownBy w' row) (hγ : ∀ r g,γ r=some g→γ' r=some g) (hγk : ∀ r,r≠k→γ' r=γ r)
  (hgs : ∀ e t v,γ' k=some (.row e t v) → ∃ A n c,v = .slice A n c) (hwf : ∀ b t,γ' k=some (.box b t)→d9 false t=true)
  (hrow : ∀ b,row=some b→(X b∨w0.heap.size≤b) ∧ ∀ r x,r≠k→get r=some x→bB γ r x≠some b)
  (hP : ∀ b o,Pr b o→Pr' b o) (hP' : ∀ b o,Pr' b o→Pr b o ∨ ∃ x,x'=some x∧bB γ' k x=some b∧jo x o)
  (hcell : ∀ b o v,row=some b→Pr b o→w.cell? ⟨b,o,none⟩=some v→w'.cell? ⟨b,o,none⟩=some v)
  (hres : ∀ x,x'=some x→ki (Ln Pr' w') Pr' γ' w' k x)
  (hblk : ∀ x b,x'=some x→bB γ' k x=some b→(X b∨w0.heap.size≤b)∧(∀ r y,r≠k→get r=some y→bB γ r y≠some b) ∧ ∀ o,Pr b o→jo x o) :
  bm w0 X Pr0 sl (fun s=>if s=k then x' else get s) γ' Pr' a w':=by
 have hL:=mZ hI.prIn hg hP hcell
 constructor
 case slots=>exact g6 hL hγ hI.slots
 case defers=>exact hI.defers
 case gs =>
  intro r e t v h
  by_cases hr:r=k
  ·subst hr
   exact hgs e t v h
  ·rw[hγk r hr] at h
   exact hI.gs r e t v h
 case wfs =>
  intro r b t h
  by_cases hr:r=k
  ·subst hr
   exact hwf b t h
  ·rw[hγk r hr] at h
   exact hI.wfs r b t h
 case res =>
  intro r x h
  by_cases hk:r=k
  ·subst hk
   rw[if_pos rfl] at h
   exact hres x h
  ·rw[if_neg hk] at h
   exact(hI.res r x h).kept hL hP hγ hg fun b hb=>(hrow b hb).2 r x hk h
 case apart =>
  intro r r' x y b h h' hne hb
  by_cases hk:r=k
  ·subst hk
   rw[if_pos rfl] at h
   rw[if_neg (fun e=>hne e.symm)] at h'
   rw[q8 (hγk r' (fun e=>hne e.symm))]
   exact(hblk x b h hb).2.1 r' y (fun e=>hne e.symm) h'
  ·rw[if_neg hk] at h
   rw[q8 (hγk r hk)] at hb
   by_cases hk':r'=k
   ·subst hk'
    rw[if_pos rfl] at h'
    exact fun hb'=>(hblk y b h' hb').2.1 r x hk h hb
   ·rw[if_neg hk'] at h'
    rw[q8 (hγk r' hk')]
    exact hI.apart r r' x y b h h' hne hb
 case loose =>
  intro r x b h hb o ho
  by_cases hk:r=k
  ·subst hk
   rw[if_pos rfl] at h
   rcases hP' b o ho with ho | ⟨x1,h1,h2,h3⟩
   ·exact(hblk x b h hb).2.2 o ho
   ·rw[h] at h1
    cases h1
    exact h3
  ·rw[if_neg hk] at h
   rw[q8 (hγk r hk)] at hb
   rcases hP' b o ho with ho | ⟨x1,h1,h2,h3⟩
   ·exact hI.loose r x b h hb o ho
   ·exact absurd hb ((hblk x1 b h1 h2).2.1 r x hk h)
 case where_ =>
  intro r x b h hb
  by_cases hk:r=k
  ·subst hk
   rw[if_pos rfl] at h
   exact(hblk x b h hb).1
  ·rw[if_neg hk] at h
   rw[q8 (hγk r hk)] at hb
   exact hI.where_ r x b h hb
 case frame =>
  intro i hi hx
  rw[hg.block i (by have:=hI.size; omega) (fun e=>by
   rcases(hrow i e.symm).1 with h | h
   ·exact hx h
   ·omega)]
  exact hI.frame i hi hx
 case size=>exact Nat.le_trans hI.size hg.size
 case os=>exact hg.os.trans hI.os
 case tape=>exact hg.tape.trans hI.tape
 case output=>exact hg.output.trans hI.output
 case prIn =>
  intro b o ho
  rcases hP' b o ho with ho | ⟨x1,h1,h2,h3⟩
  ·exact Nat.lt_of_lt_of_le (hI.prIn b o ho) hg.size
  ·exact(hres x1 h1).lt h2
 case prOld =>
  intro b hb hx o ho
  rcases hP' b o ho with ho | ⟨x1,h1,h2,h3⟩
  ·exact hI.prOld b hb hx o ho
  ·rcases(hblk x1 b h1 h2).1 with h | h
   ·exact absurd h hx
   ·omega
 case pr0=>exact fun b o v h=>hL _ _ _ (hI.pr0 b o v h)
theorem bm.lean1 (hI:bm w0 X Pr0 sl get γ Pr a w) {b:Nat} (S:Nat→Prop) (hb:b < w.heap.size) (hX:X b∨w0.heap.size≤b) (hno : ∀ r x,get r=some x→bB γ r x≠some b) :
  bm w0 X Pr0 sl get γ (fun b' o=>Pr b' o∨(b'=b∧S o)) a w:=by
 have hL : ∀ b' o v,Ln Pr w b' o v→Ln (fun b' o=>Pr b' o∨(b'=b∧S o)) w b' o v:=fun b' o v h=>⟨.inl h.1,h.2⟩
 refine⟨g6 hL (fun _ _ h=>h) hI.slots,hI.defers,hI.gs,hI.wfs,fun r x h=>(hI.res r x h).kept hL (fun _ _ h => .inl h) (fun _ _ h=>h) (row:=none) ⟨rfl,rfl,rfl,Nat.le_refl _,fun _ _ _=>rfl⟩ (fun b hb=>by cases hb),hI.apart,?_,hI.where_,hI.frame,hI.size,hI.os,hI.tape,hI.output,?_,?_,fun b' o v h=>hL _ _ _ (hI.pr0 b' o v h)⟩
 ·intro r x b' h hb' o ho
  rcases ho with ho | ⟨rfl,_⟩
  ·exact hI.loose r x b' h hb' o ho
  ·exact absurd hb' (hno r x h)
 ·intro b' o ho
  rcases ho with ho | ⟨rfl,_⟩
  ·exact hI.prIn b' o ho
  ·exact hb
 ·intro b' hb' hx o ho
  rcases ho with ho | ⟨rfl,_⟩
  ·exact hI.prOld b' hb' hx o ho
  ·rcases hX with h | h
   ·exact absurd h hx
   ·omega
theorem bm.freeze1 (hI:bm w0 X Pr0 sl get γ Pr a w) {r:Nat} {e:TypeId} {t:Ty} {xs:List t.den} {fr:Bool} (h:get r=some (.row e t xs fr)) :
  ∃ Pr',bm w0 X Pr0 sl (fun s=>if s=r then some (.row e t xs true) else get s) γ Pr' a w ∧ ∀ b o,Pr b o→Pr' b o:=by
 obtain⟨v,css,hk,he,ho,hf⟩:=hI.res r _ h
 have hb : ∀ x fr',x=aY.row e t xs fr'→bB γ r x=v.ownBlock:=fun x fr' hx=>by subst hx; simp[bB,hk]
 refine⟨fun b o=>Pr b o∨(v.ownBlock=some b∧o < xs.length*t.sz),?_,fun b o h => .inl h⟩
 refine hI.turn r _ none ⟨rfl,rfl,rfl,Nat.le_refl _,fun _ _ _=>rfl⟩ (fun _ _ h=>h) (fun _ _=>rfl) (fun e t v h=>hI.gs r e t v h) (fun b t h=>hI.wfs r b t h) (fun b hb=>by cases hb) (fun b o h => .inl h) ?_ (fun b o v hb=>by cases hb) ?_ ?_
 ·intro b o ho
  rcases ho with ho | ⟨h1,h2⟩
  ·exact .inl ho
  ·exact .inr ⟨_,rfl,(hb _ true rfl).trans h1,h2⟩
 ·intro x hx
  cases hx
  exact⟨v,css,hk,oP (fun b o v h=>⟨.inl h.1,h.2⟩) he,ho,fun _ b hb o ho => .inr ⟨hb,ho⟩⟩
 ·intro x b hx hbb
  cases hx
  have hb':bB γ r (.row e t xs fr)=some b:=by rw[hb _ fr rfl,←hb _ true rfl]; exact hbb
  refine⟨hI.where_ r _ b h hb',fun r' y hne hy hyb=>hI.apart r r' _ y b h hy (fun e=>hne e.symm) hb' hyb,fun o hoo => ?_⟩
  have:=hI.loose r _ b h hb' o hoo
  cases fr with
  | true=>exact this
  | false=>exact this.elim
theorem db {get:Nat→Option aY} : ∀ {u u':Up},bq get (u++u')=bq (bq get u) u'
 | [],u'=>rfl
 | (r,x) :: u,u'=>db (u:=u)
def FV (res:aH) (get:Nat→Option aY):Prop := ∀ r x,az res r=some x → ∃ y,get r=some y∧(y=x ∨ ∃ e t xs fr,x = .row e t xs fr∧y = .row e t xs true)
theorem FV.row {res:aH} (h:FV res get) {r:Nat} {e:TypeId} {t:Ty} {xs:List t.den} {fr:Bool} (hr:az res r=some (.row e t xs fr)) : ∃ fr',get r=some (.row e t xs fr')∧(fr=true→fr'=true):=by
 obtain⟨y,hy,h | ⟨e',t',xs',fr',h1,h2⟩⟩:=h r _ hr
 ·subst h
  exact⟨fr,hy,id⟩
 ·cases h1
  subst h2
  exact⟨true,hy,fun _=>rfl⟩
theorem bm.freeze_ok (res:aH) : ∀(l:List Nat) {get:Nat→Option aY} {Pr:Nat→Nat→Prop},FV res get→bm w0 X Pr0 sl get γ Pr a w →
  ∃ Pr',bm w0 X Pr0 sl (bq get (cd res l)) γ Pr' a w∧(∀ b o,Pr b o→Pr' b o)∧FV res (bq get (cd res l)) ∧
   (∀ r,(∀ e t xs fr,get r≠some (.row e t xs fr))→bq get (cd res l) r=get r) ∧
   (∀ r e t xs fr,r∈l→az res r=some (.row e t xs fr)→bq get (cd res l) r=some (.row e t xs true)) ∧
   (∀ r e t xs fr,get r=some (.row e t xs fr) → ∃ fr',bq get (cd res l) r=some (.row e t xs fr')∧(fr=true→fr'=true)) ∧
   (∀ r,r ∉ l→bq get (cd res l) r=get r)
 | [],get,Pr,hk,hI=>⟨Pr,hI,fun _ _ h=>h,hk,fun _ _=>rfl,fun _ _ _ _ _ h=>by simp at h,fun r e t xs fr h=>⟨fr,h,id⟩,fun _ _=>rfl⟩
 | r :: l,get,Pr,hk,hI=>by
  by_cases h : ∃ e t xs,az res r=some (.row e t xs false)
  ·obtain⟨e,t,xs,h⟩:=h
   obtain⟨fr',hr,_⟩:=hk.row h
   obtain⟨Pr1,hI1,hP1⟩:=hI.freeze1 hr
   have hk1:FV res (fun s=>if s=r then some (.row e t xs true) else get s):=by
    intro s x hx
    by_cases hs:s=r
    ·subst hs
     rw[h] at hx
     cases hx
     exact⟨_,if_pos rfl,.inr ⟨e,t,xs,false,rfl,rfl⟩⟩
    ·obtain⟨y,hy,hh⟩:=hk s x hx
     exact⟨y,by simp only[if_neg hs]; exact hy,hh⟩
   obtain⟨Pr2,hI2,hP2,hk2,h21,h22,h23,h24⟩:=bm.freeze_ok res l hk1 hI1
   have he:cd res (r :: l)=(r,some (.row e t xs true)) :: cd res l:=by simp[cd,h]
   rw[he]
   refine⟨Pr2,hI2,fun b o hh=>hP2 b o (hP1 b o hh),hk2,?_,?_,?_,?_⟩
   ·intro s hn
    have hs:s≠r:=fun hh=>hn e t xs fr' (hh ▸ hr)
    rw[show bq get ((r,some (.row e t xs true)) :: cd res l)=bq (fun s=>if s=r then some (.row e t xs true) else get s) (cd res l) from rfl,h21 s (fun e' t' xs' fr2=>by simp only[if_neg hs]; exact hn e' t' xs' fr2)]
    simp only[if_neg hs]
   ·intro s e' t' xs' fr hs hx
    rcases List.mem_cons.1 hs with rfl | hs
    ·rw[h] at hx
     cases hx
     obtain⟨fr2,h4,h5⟩:=h23 s e t xs true (if_pos rfl)
     rw[h5 rfl] at h4
     exact h4
    ·exact h22 s e' t' xs' fr hs hx
   ·intro s e' t' xs' fr hx
    by_cases hs:s=r
    ·subst hs
     rw[hr] at hx
     cases hx
     obtain⟨fr2,h4,h5⟩:=h23 s e t xs true (if_pos rfl)
     exact⟨fr2,h4,fun _=>h5 rfl⟩
    ·exact h23 s e' t' xs' fr (by simp only[if_neg hs]; exact hx)
   ·intro s hs
    rw[show bq get ((r,some (.row e t xs true)) :: cd res l)=bq (fun s=>if s=r then some (.row e t xs true) else get s) (cd res l) from rfl,h24 s (fun hh=>hs (List.mem_cons_of_mem _ hh))]
    simp only[if_neg (fun e=>hs (by simp[e]) : ¬s=r)]
  ·have he:cd res (r :: l)=cd res l:=by
    simp only[cd,List.filterMap_cons]
    split
    ·rfl
    ·rename_i hh
     split at hh
     ·rename_i e t xs hx
      exact absurd ⟨e,t,xs,hx⟩ h
     ·cases hh
   obtain⟨Pr2,hI2,hP2,hk2,h21,h22,h23,h24⟩:=bm.freeze_ok res l hk hI
   rw[he]
   refine⟨Pr2,hI2,hP2,hk2,h21,?_,h23,fun s hs=>h24 s (fun hh=>hs (List.mem_cons_of_mem _ hh))⟩
   intro s e' t' xs' fr hs hx
   rcases List.mem_cons.1 hs with rfl | hs
   ·cases fr with
    | false=>exact absurd ⟨e',t',xs',hx⟩ h
    | true =>
     obtain⟨fr',h5,h6⟩:=hk.row hx
     obtain⟨fr2,h7,h8⟩:=h23 s e' t' xs' fr' h5
     rw[h8 (h6 rfl)] at h7
     exact h7
   ·exact h22 s e' t' xs' fr hs hx
end
end Go.Proofs.YtnodjiikdgmeaaaGreatDoor.Abs
namespace Go.Proofs.YtnodjiikdgmeaaaGreatDoor.Abs
open Go Go.RowKit
theorem nZ {α:Type} : ∀ {css:List (List α)} {n:Nat},(∀ c∈css,c.length=n) → ∀ {i j:Nat} {c:List α},css[i]? = some c→j < n→css.flatten[i*n+j]? = c[j]?
 | [],n,_,i,j,c,h,_=>by simp at h
 | c0 :: css,n,hl,0,j,c,h,hj=>by
  simp at h
  subst h
  rw[List.flatten_cons,Nat.zero_mul,Nat.zero_add,List.getElem?_append_left (by rw[hl _ (by simp)]; exact hj)]
 | c0 :: css,n,hl,i+1,j,c,h,hj=>by
  have h0:c0.length=n:=hl _ (by simp)
  rw[List.flatten_cons,List.getElem?_append_right (by rw[h0,Nat.succ_mul]; omega),h0]
  rw[show(i+1)*n+j - n=i*n+j by rw[Nat.succ_mul]; omega]
  exact nZ (fun c hc=>hl c (List.mem_cons_of_mem _ hc)) (by simpa using h) hj
theorem mb.lens {L:Lk} {t:Ty} {xs:List t.den} {css:List (List Value)} (h:mb L t xs css) : ∀ c∈css,c.length=t.sz:=by
 intro c hc
 obtain⟨i,hi,rfl⟩:=List.getElem_of_mem hc
 exact eE (h.2 i (by rw[←h.1]; exact hi) hi)
theorem mb.ones {L:Lk} {t:Ty} {xs:List t.den} {css:List (List Value)} (h:mb L t xs css) : ∀ v∈css.flatten,v.oneCell'=true:=by
 intro v hv
 obtain⟨c,hc,hv⟩:=List.mem_flatten.1 hv
 obtain⟨i,hi,rfl⟩:=List.getElem_of_mem hc
 exact pF (h.2 i (by rw[←h.1]; exact hi) hi) v hv
theorem iA (b o j:Nat):(⟨b,o,none⟩:Addr).add j=⟨b,o+j,none⟩:=by unfold Addr.add; split <;> simp_all
theorem xQ {Pr Pr':Nat→Nat→Prop} {γ:Nat→Option G} {w:World} {r:Nat} {e:TypeId} {t:Ty} {xs:List t.den} {fr:Bool} (h:ki (Ln Pr w) Pr γ w r (.row e t xs fr))
  (hP : ∀ b o,Pr b o→Pr' b o) (hP' : ∀ b,bB γ r (.row e t xs fr)=some b → ∀ o,o < xs.length*t.sz→Pr' b o) : ∃ v,γ r=some (.row e t v)∧RK (Ln Pr' w) (.slice e t) xs [v]:=by
 obtain⟨v,css,hk,he,ho,_⟩:=h
 refine⟨v,hk,?_⟩
 rcases ho.2 with⟨rfl,hn⟩ | ⟨g,cap,cur,rfl,_,hg,hnc,_⟩
 ·have hx:xs=[]:=List.eq_nil_of_length_eq_zero hn
  subst hx
  exact⟨none,0,rfl,Nat.le_refl _,fun h=>absurd rfl h⟩
 ·refine⟨some ⟨g,0,none⟩,cap,rfl,hnc,fun _=>⟨g,0,rfl,fun i hi => ?_⟩⟩
  have hi':i < css.length:=by rw[he.1]; exact hi
  refine⟨css[i],gT (fun b o v h=>⟨hP _ _ h.1,h.2⟩) (he.2 i hi hi'),fun j u hj => ?_⟩
  have hjs:j < t.sz:=by
   have:=he.lens _ (List.getElem_mem hi')
   rw[←this]
   exact(List.getElem?_eq_some_iff.1 hj).1
  have hfl:css.flatten[i*t.sz+j]? = some u:=(nZ he.lens (List.getElem?_eq_getElem hi') hjs).trans hj
  have hlt:i*t.sz+j < xs.length*t.sz:=by
   have h1:(i+1)*t.sz≤xs.length*t.sz:=Nat.mul_le_mul_right _ hi
   rw[Nat.succ_mul] at h1
   omega
  refine⟨hP' g (by simp[bB,hk,Value.ownBlock]) _ (by omega),?_⟩
  have:=ho.cells (g:=g) rfl _ _ hfl
  rwa[iA,←Nat.add_assoc] at this
def iR (L:Lk) (γ:Nat→Option G) (res:aH) (P:Nat→Prop):Prop := ∀ r e t xs,P r→((∃ fr,az res r=some (.row e t xs fr))∨az res r=some (.old e t xs)) → ∃ v,γ r=some (.row e t v)∧RK L (.slice e t) xs [v]
theorem kn {t s:Ty} {x:t.den} {y:s.den} (h:kP? s x=some y) : ∃ h:t=s,h ▸ x=y:=by
 unfold kP? at h
 split at h
 ·exact⟨by assumption,by simpa using h⟩
 ·cases h
section
variable {L:Lk} {γ:Nat→Option G} {res:aH} {P:Nat→Prop}
theorem zx {g:(t:Ty)→SV→Option t.den} (Q:SV→Prop) (hg : ∀ {a t:Ty} {v:SV} {x:a.den} {c:List Value},Q v→RT L γ t v c→g a v=some x→RK L a x c) :
  ∀ {t s:Ty} {l:List SV} {cs:List Value} {x:t.den},(∀ v∈l,Q v)→gC L γ s l cs→ur g t l=some x→RK L t x cs
 | t,_,_,_,x,hq,.nil,h=>by
  cases t <;> simp only[ur] at h <;> first | (cases h; done) | exact rfl
 | t,_,_,_,x,hq,.cons hv k,h=>by
  cases t <;> simp only[ur] at h <;> try (cases h; done)
  simp only[Option.bind_eq_some_iff] at h
  obtain⟨u,hu,w,hw,he⟩:=h
  cases he
  exact⟨_,_,rfl,hg (hq _ (by simp)) hv hu,zx Q hg (fun v hv=>hq v (List.mem_cons_of_mem _ hv)) k hw⟩
theorem IZ {d:Nat} {t:Ty} {r:Nat} {x:t.den} (h:de res (d+1) t (.row r)=some x) : ∃ e s xs,((∃ fr,az res r=some (.row e s xs fr))∨az res r=some (.old e s xs))∧kP? (t := .slice e s) t xs=some x:=by
 have h':(match az res r with
  | some (.row e s xs _)=>kP? (t := .slice e s) t xs
  | some (.old e s xs)=>kP? (t := .slice e s) t xs
  | _=>none)=some x:=by
  cases t <;> exact h
 split at h'
 ·exact⟨_,_,_,.inl ⟨_,by assumption⟩,h'⟩
 ·exact⟨_,_,_,.inr (by assumption),h'⟩
 ·cases h'
theorem uM (hr:iR L γ res P) : ∀(d d':Nat) {t s:Ty} {v:SV} {x:t.den} {cs:List Value},d≤d'→(∀ r∈dw d' v,P r)→RT L γ s v cs→de res d t v=some x→RK L t x cs:=by
 intro d
 induction d with
 | zero=>intro d' t s v x cs _ _ _ h; simp[de] at h
 | succ d ih =>
  intro d' t s v x cs hd hP hv h
  cases d' with
  | zero=>omega
  | succ d' =>
   cases hv with
   | val hk =>
    simp only[de] at h
    obtain⟨rfl,rfl⟩:=kn h
    exact hk
   | nilS =>
    cases t <;> simp only[de] at h <;> try (cases h; done)
    cases h
    exact⟨none,0,rfl,Nat.le_refl _,fun h=>absurd rfl h⟩
   | row hk =>
    rename_i r _
    obtain⟨e,s,xs,hres,hc⟩:=IZ h
    obtain⟨v,hv,hrk⟩:=hr r e s xs (hP r (by simp[dw])) hres
    rw[hk] at hv
    cases hv
    obtain⟨rfl,rfl⟩:=kn hc
    exact hrk
   | strct hk =>
    rename_i l
    cases t <;> simp only[de] at h <;> try (cases h; done)
    rename_i t'
    show RK L t' x cs
    refine zx (t:=t') (x:=x) (fun v => ∀ r∈dw d' v,P r) (fun hq ht hx=>ih d' (Nat.le_of_succ_le_succ hd) hq ht hx) (fun v hv r hrr=>hP r ?_) hk h
    simp only[dw,List.mem_flatMap]
    exact⟨v,hv,hrr⟩
theorem g7 (hr:iR L γ res P) {d d':Nat} {t:Ty} {v:SV} {x:t.den} {u:Value} (hd:d≤d') (hP : ∀ r∈dw d' v,P r) (hv:RV L γ v u) (h:de res d t v=some x) : ∃ cs,u=mk t cs∧RK L t x cs:=by
 match d,d',hd with
 | 0,_,_=>simp[de] at h
 | d+1,d'+1,hd =>
  cases hv with
  | undef=>simp[de] at h
  | nilS =>
   cases t <;> simp only[de] at h <;> try (cases h; done)
   cases h
   exact⟨[.slice none 0 0],rfl,none,0,rfl,Nat.le_refl _,fun h=>absurd rfl h⟩
  | val hk =>
   simp only[de] at h
   obtain⟨rfl,rfl⟩:=kn h
   exact⟨_,rfl,hk⟩
  | row hk =>
   rename_i e s r
   have hrk:=uM hr (d+1) (d'+1) hd hP (.row hk) h
   refine⟨_,?_,hrk⟩
   obtain⟨e',s',xs,_,hc⟩:=IZ h
   obtain⟨rfl,_⟩:=kn hc
   rfl
  | strct hk =>
   have hrk:=uM hr (d+1) (d'+1) hd hP (.strct hk) h
   cases t <;> simp only[de] at h <;> try (cases h; done)
   exact⟨_,rfl,hrk⟩
  | ptr=>simp[de] at h
  | eptr=>simp[de] at h
  | rptr=>simp[de] at h
  | tail=>simp[de] at h
  | fn=>simp[de] at h
  | tup=>simp[de] at h
end
abbrev DW (w:World):Lk:=Ln (fun _ _=>True) w
section
variable {w0:World} {X:Nat→Prop} {Pr0:Nat→Nat→Prop} {sl:List SV} {get:Nat→Option aY} {γ:Nat→Option G} {Pr:Nat→Nat→Prop} {a:Act} {w:World} {res:aH}
theorem X4 : ∀ b o v,Ln Pr w b o v→DW w b o v:=fun b o v h=>⟨trivial,h.2⟩
theorem YW (hI:bm w0 X Pr0 sl get γ Pr a w) (hk : ∀ r x,az res r=some x→get r=some x):iR (DW w) γ res (fun _=>True):=by
 intro r e t xs _ h
 rcases h with⟨fr,h⟩ | h
 ·exact xQ (hI.res r _ (hk r _ h)) (fun _ _ _=>trivial) (fun _ _ _ _=>trivial)
 ·obtain⟨v,hv,hr⟩:=hI.res r _ (hk r _ h)
  exact⟨v,hv,gT X4 hr⟩
theorem WQ (hI:bm w0 X Pr0 sl get γ Pr a w) (hk : ∀ r x,az res r=some x→get r=some x) {d:Nat} {t:Ty} {v:SV} {x:t.den} {u:Value} (hv:RV (Ln Pr w) γ v u) (h:de res d t v=some x) :
  ∃ cs,u=mk t cs∧RK (DW w) t x cs:=g7 (YW hI hk) (Nat.le_refl d) (fun _ _=>trivial) (ux X4 (fun _ _ h=>h) hv) h
theorem YX (hI:bm w0 X Pr0 sl get γ Pr a w) {l:List Nat} (hk : ∀ r e t xs fr,r∈l→az res r=some (.row e t xs fr)→get r=some (.row e t xs true))
  (ho : ∀ r e t xs,az res r=some (.old e t xs)→get r=some (.old e t xs)):iR (Ln Pr w) γ res (fun r=>r∈l):=by
 intro r e t xs hr h
 rcases h with⟨fr,h⟩ | h
 ·have h1:=hI.res r _ (hk r e t xs fr hr h)
  obtain⟨v,css,h2,h3,h4,h5⟩:=h1
  refine xQ (hI.res r _ (hk r e t xs fr hr h)) (fun _ _ h=>h) (fun b hb o hoo=>h5 rfl b ?_ o hoo)
  simpa[bB,h2] using hb
 ·obtain⟨v,hv,hr⟩:=hI.res r _ (ho r e t xs h)
  exact⟨v,hv,hr⟩
end
end Go.Proofs.YtnodjiikdgmeaaaGreatDoor.Abs
namespace Go.Proofs.YtnodjiikdgmeaaaGreatDoor.Abs
open Go Go.RowKit
def pH (γ:Nat→Option G) (res:aH):Prop := ∀ r e t xs,((∃ fr,az res r=some (.row e t xs fr))∨az res r=some (.old e t xs)) → ∃ v,γ r=some (.row e t v)
section
variable {L:Lk} {γ:Nat→Option G} {res:aH}
theorem Lh {d:Nat} {t:Ty} {r:Nat} (h:gl res (d+1) t (.row r)=true) : ∃ e s,((∃ xs fr,az res r=some (.row e s xs fr)) ∨ ∃ xs,az res r=some (.old e s xs))∧Ty.slice e s=t:=by
 have h':(match az res r with
  | some (.row e s _ _)=>decide (Ty.slice e s=t)
  | some (.old e s _)=>decide (Ty.slice e s=t)
  | _=>false)=true:=by
  cases t <;> exact h
 split at h'
 ·exact⟨_,_,.inl ⟨_,_,by assumption⟩,of_decide_eq_true h'⟩
 ·exact⟨_,_,.inr ⟨_,by assumption⟩,of_decide_eq_true h'⟩
 ·cases h'
theorem O6 {g:Ty→SV→Bool} (hg : ∀ {a s:Ty} {v:SV} {c:List Value},RT L γ s v c→g a v=true→RT L γ a v c) : ∀ {t s:Ty} {l:List SV} {cs:List Value},gC L γ s l cs→gl.go g t l=true→gC L γ t l cs
 | t,_,_,_,.nil,h=>by
  cases t <;> simp only[gl.go] at h <;> first | (cases h; done) | exact .nil
 | t,_,_,_,.cons hv k,h=>by
  cases t <;> simp only[gl.go,Bool.and_eq_true] at h <;> try (cases h; done)
  exact .cons (hg hv h.1) (O6 hg k h.2)
theorem O7 (hr:pH γ res) : ∀(d:Nat) {t s:Ty} {v:SV} {cs:List Value},RT L γ s v cs→gl res d t v=true→RT L γ t v cs:=by
 intro d
 induction d with
 | zero=>intro t s v cs _ h; simp[gl] at h
 | succ d ih =>
  intro t s v cs hv h
  cases hv with
  | val hk =>
   simp only[gl,decide_eq_true_eq] at h
   subst h
   exact .val hk
  | nilS =>
   cases t <;> simp only[gl] at h <;> try (cases h; done)
   exact .nilS
  | row hk =>
   rename_i e s' r v'
   obtain⟨e',s2,hh,rfl⟩:=Lh h
   have : ∃ v,γ r=some (.row e' s2 v):=by
    rcases hh with⟨xs,fr,hh⟩ | ⟨xs,hh⟩
    ·exact hr r e' s2 xs (.inl ⟨fr,hh⟩)
    ·exact hr r e' s2 xs (.inr hh)
   obtain⟨v2,hv2⟩:=this
   rw[hk] at hv2
   cases hv2
   exact .row hk
  | strct hk =>
   cases t <;> simp only[gl] at h <;> try (cases h; done)
   exact .strct (O6 (fun hv hh=>ih hv hh) hk h)
theorem CZ (hr:pH γ res) {d:Nat} {t:Ty} {v:SV} {u:Value} (hv:RV L γ v u) (h:gl res d t v=true) : ∃ cs,u=mk t cs∧RT L γ t v cs:=by
 cases d with
 | zero=>simp[gl] at h
 | succ d =>
  cases hv with
  | undef=>simp[gl] at h
  | ptr=>simp[gl] at h
  | eptr=>simp[gl] at h
  | rptr=>simp[gl] at h
  | tail=>simp[gl] at h
  | fn=>simp[gl] at h
  | tup=>simp[gl] at h
  | nilS =>
   cases t <;> simp only[gl] at h <;> try (cases h; done)
   exact⟨_,rfl,.nilS⟩
  | val hk =>
   simp only[gl,decide_eq_true_eq] at h
   subst h
   exact⟨_,rfl,.val hk⟩
  | row hk =>
   have:=O7 hr (d+1) (RT.row (L:=L) hk) h
   obtain⟨e',s2,hh,rfl⟩:=Lh h
   exact⟨_,rfl,this⟩
  | strct hk =>
   have:=O7 hr (d+1) (RT.strct hk) h
   cases t <;> simp only[gl] at h <;> try (cases h; done)
   exact⟨_,rfl,this⟩
theorem vZ {t:Ty} {v:SV} {cs:List Value} (h:RT L γ t v cs) (hf : ∀ u,t = .agg u→Qt u):RT L γ t (hZ v) cs:=by
 cases h with
 | @val t x cs hk =>
  cases t <;> simp only[hZ] <;> first | exact .val hk | exact .strct (DV hk (hf _ rfl))
 | nilS=>exact .nilS
 | row h=>exact .row h
 | strct h=>exact .strct h
theorem FW {t s:Ty} {l:List SV} {cs:List Value} {v:SV} (h:gC L γ s l cs) (hc:xM t l=some v):RV L γ v (.agg cs.toArray)∧((∃ x,v = .val (.agg t) x∧RK L t x cs)∨v = .strct l):=by
 unfold xM at hc
 split at hc
 ·simp only[Option.bind_eq_some_iff] at hc
  obtain⟨x,hx,he⟩:=hc
  cases he
  have hr:iR L γ [] (fun _=>True):=by
   intro r e t xs _ h
   rcases h with⟨fr,h⟩ | h <;> simp[az] at h
  have hk:RK L t x cs:=zx (fun _=>True) (fun _ ht hx=>uM hr 9 9 (Nat.le_refl _) (fun _ _=>trivial) ht hx) (fun _ _=>trivial) h hx
  exact⟨RV.val (t := .agg t) hk,.inl ⟨x,rfl,hk⟩⟩
 ·cases hc
  exact⟨.strct h,.inr rfl⟩
theorem xR : ∀ {t:Ty},d9 true t=true→Qt t
 | .pair a b,h=>by
  simp only[d9,Bool.and_eq_true] at h
  exact xR (t:=b) h.2
 | .unit,_=>trivial
 | .int _,h=>by simp[d9] at h
 | .bool,h=>by simp[d9] at h
 | .err,h=>by simp[d9] at h
 | .fn,h=>by simp[d9] at h
 | .pt,h=>by simp[d9] at h
 | .str,h=>by simp[d9] at h
 | .agg _,h=>by simp[d9] at h
 | .slice _ _,h=>by simp[d9] at h
theorem q9 : ∀(t:Ty),RK L t t.dflt (zc t)
 | .err => .inl ⟨rfl,rfl⟩
 | .fn=>rfl
 | .pt=>rfl
 | .int k=>rfl
 | .bool=>rfl
 | .str=>rfl
 | .unit=>rfl
 | .pair a b=>⟨_,_,rfl,q9 a,q9 b⟩
 | .agg t=>q9 t
 | .slice e t=>⟨none,0,rfl,Nat.le_refl _,fun h=>absurd rfl h⟩
theorem xS : ∀(t:Ty),(d9 false t=true→RT L γ t (km t) (zc t))∧(d9 true t=true→gC L γ t (km.go t) (zc t))
 | .int k=>⟨fun _ => .val rfl,fun h=>by simp[d9] at h⟩
 | .bool=>⟨fun _ => .val rfl,fun h=>by simp[d9] at h⟩
 | .err=>⟨fun _ => .val (q9 (L:=L) .err),fun h=>by simp[d9] at h⟩
 | .fn=>⟨fun _ => .val rfl,fun h=>by simp[d9] at h⟩
 | .pt=>⟨fun _ => .val rfl,fun h=>by simp[d9] at h⟩
 | .str=>⟨fun _ => .val rfl,fun h=>by simp[d9] at h⟩
 | .unit=>⟨fun h=>by simp[d9] at h,fun _ => .nil⟩
 | .pair a b=>⟨fun h=>by simp[d9] at h,fun h=>by
   simp only[d9,Bool.and_eq_true] at h
   exact .cons ((xS a).1 h.1) ((xS b).2 h.2)⟩
 | .agg t=>⟨fun h => .strct ((xS t).2 h),fun h=>by simp[d9] at h⟩
 | .slice e t=>⟨fun _ => .nilS,fun h=>by simp[d9] at h⟩
def bc (cs:List Value) (o:Nat) (c:List Value):List Value:=cs.take o++c++cs.drop (o+c.length)
theorem N5 {c d e:List Value} (h:c.length=d.length):bc (c++e) 0 d=d++e:=by
 simp[bc,←h]
theorem uN {c d e:List Value} {o:Nat}:bc (c++d) (c.length+o) e=c++bc d o e:=by
 simp only[bc,List.take_append,List.drop_append,Nat.add_assoc,Nat.add_sub_cancel_left,List.append_assoc]
 rw[List.take_of_length_le (by omega),List.drop_eq_nil_of_le (by omega)]
 simp
theorem HO : ∀ {t:Ty} {l:List SV} {cs:List Value},gC L γ t l cs → ∀ {f:Nat} {o:Nat} {s:Ty} {v:SV} {c:List Value},dv t f=some (o,s)→RT L γ s v c→gC L γ t (l.set f v) (bc cs o c)
 | _,_,_,.nil,f,o,s,v,c,h,_=>by simp[dv] at h
 | _,_,_,.cons (d:=d) hv k,0,o,s,v,c,h,hc=>by
  simp only[dv,Option.some.injEq,Prod.mk.injEq] at h
  obtain⟨rfl,rfl⟩:=h
  rw[N5 ((iM hv).trans (iM hc).symm)]
  exact .cons hc k
 | _,_,_,.cons (d:=d) hv k,f+1,o,s,v,c,h,hc=>by
  simp only[dv,Option.map_eq_some_iff] at h
  obtain⟨q,hq,he⟩:=h
  cases he
  rw[←iM hv,uN]
  exact .cons hv (HO k hq hc)
theorem O8 : ∀ {t:Ty} {f o:Nat} {s:Ty},d9 true t=true→dv t f=some (o,s)→d9 false s=true
 | .pair a b,0,o,s,h,ho=>by
  simp only[d9,Bool.and_eq_true] at h
  cases ho
  exact h.1
 | .pair a b,f+1,o,s,h,ho=>by
  simp only[d9,Bool.and_eq_true] at h
  simp only[dv,Option.map_eq_some_iff] at ho
  obtain⟨q,hq,he⟩:=ho
  cases he
  exact O8 (t:=b) h.2 hq
 | .unit,_,_,_,_,ho=>by simp[dv] at ho
 | .int _,_,_,_,h,_=>by simp[d9] at h
 | .bool,_,_,_,h,_=>by simp[d9] at h
 | .err,_,_,_,h,_=>by simp[d9] at h
 | .str,_,_,_,h,_=>by simp[d9] at h
 | .agg _,_,_,_,h,_=>by simp[d9] at h
 | .slice _ _,_,_,_,h,_=>by simp[d9] at h
theorem m5 {cs c:List Value} {o:Nat} (h:o+c.length≤cs.length):(bc cs o c).length=cs.length:=by
 simp[bc]
 omega
theorem m6 {cs c:List Value} {o:Nat} (h:o+c.length≤cs.length) (j:Nat):(bc cs o c)[j]? = if o≤j∧j < o+c.length then c[j - o]? else cs[j]? := by
 unfold bc
 by_cases h1:j < o
 ·rw[if_neg (by omega),List.append_assoc,List.getElem?_append_left (by simp; omega),List.getElem?_take,if_pos h1]
 ·by_cases h2:j < o+c.length
  ·rw[if_pos ⟨by omega,h2⟩,List.append_assoc,List.getElem?_append_right (by simp; omega)]
   rw[List.getElem?_append_left (by simp; omega)]
   congr 1
   simp
   omega
  ·rw[if_neg (by omega),List.getElem?_append_right (by simp; omega),List.getElem?_drop]
   congr 1
   simp
   omega
theorem SL {cs c1 c:List Value} {o o':Nat} (h:eR c1 cs o) (hl:o+c1.length≤cs.length) (h':o'+c.length≤c1.length):bc cs o (bc c1 o' c)=bc cs (o+o') c:=by
 apply List.ext_getElem?
 intro j
 rw[m6 (by rw[m5 h']; exact hl),m5 h']
 by_cases h1:o≤j∧j < o+c1.length
 ·rw[if_pos h1,m6 h']
  rw[m6 (cs:=cs) (c:=c) (o:=o+o') (by omega)]
  by_cases h2:o'≤j - o∧j - o < o'+c.length
  ·rw[if_pos h2,if_pos (by omega)]
   congr 1
   omega
  ·rw[if_neg h2,if_neg (by omega)]
   have:=h (j - o) _ (List.getElem?_eq_getElem (by omega))
   rw[List.getElem?_eq_getElem (by omega),←this]
   congr 1
   omega
 ·rw[if_neg h1,m6 (cs:=cs) (c:=c) (o:=o+o') (by omega),if_neg (by omega)]
theorem I0 : ∀ {p:List Nat} {t:Ty} {v u z:SV} {cs:List Value} {o:Nat} {s:Ty} {c:List Value},d9 false t=true→RT L γ t v cs→fC t p=some (o,s)→RT L γ s u c→FO p v u=some z→RT L γ t z (bc cs o c)∧o+c.length≤cs.length
 | [],t,v,u,z,cs,o,s,c,hwf,hv,ho,hu,h=>by
  have:(0,t)=(o,s):=by cases t <;> simpa[fC] using ho
  cases this
  cases h
  have h1:bc cs 0 c=c:=by
   have:=iM hv
   have:=iM hu
   simp[bc]
   omega
  rw[h1]
  refine⟨vZ hu fun w hw => ?_,by have:=iM hv; have:=iM hu; omega⟩
  subst hw
  exact xR hwf
 | f :: p,t,v,u,z,cs,o,s,c,hwf,hv,ho,hu,h=>by
  simp only[FO] at h
  have hsp:=vZ hv (fun w hw=>by subst hw; exact xR hwf)
  split at h
  ·rename_i l hl
   simp only[Option.bind_eq_some_iff] at h
   obtain⟨z1,h1,z2,h2,he⟩:=h
   cases he
   rw[hl] at hsp
   cases hsp with
   | @strct t' _ _ hk =>
    simp only[fC,Option.bind_eq_some_iff,Option.map_eq_some_iff] at ho
    obtain⟨q,hq,q',hq',he⟩:=ho
    cases he
    obtain⟨s1,o1,c1,h3,h4,h5⟩:=HM hk h1
    rw[hq] at h3
    cases h3
    have hwf1:d9 false s1=true:=O8 hwf hq
    obtain⟨h6,h7⟩:=I0 hwf1 h4 hq' hu h2
    have h8:=HO hk hq h6
    have hl1:=EO hq
    have hlen1:c1.length=s1.sz:=iM h4
    have hlen:cs.length=t'.sz:=HL hk
    have h9:bc cs o1 (bc c1 q'.1 c)=bc cs (o1+q'.1) c:=SL h5 (by omega) h7
    rw[h9] at h8
    exact⟨.strct h8,by omega⟩
  ·cases h
theorem O9 {c:List Value} {o2:Nat} : ∀ {t:Ty} {x x':t.den} {f o:Nat} {s:Ty} {g:(s:Ty)→s.den→Option s.den} {cs:List Value},qZ t x f g=some x'→dv t f=some (o,s) →
  (∀ y y' c',g s y=some y'→RK L s y c'→RK L s y' (bc c' o2 c)∧o2+c.length≤c'.length)→RK L t x cs→RK L t x' (bc cs (o+o2) c)∧o+o2+c.length≤cs.length
 | .pair a b,x,x',0,o,s,g,cs,h,ho,hg,hk=>by
  simp only[qZ,Option.bind_eq_some_iff] at h
  obtain⟨y,hy,he⟩:=h
  cases he
  cases ho
  obtain⟨c1,d,rfl,h1,h2⟩:=hk
  obtain⟨h3,h4⟩:=hg _ _ _ hy h1
  refine⟨⟨bc c1 o2 c,d,?_,h3,h2⟩,by rw[List.length_append]; omega⟩
  rw[Nat.zero_add]
  simp only[bc,List.append_assoc]
  rw[List.take_append_of_le_length (by omega),List.drop_append_of_le_length (by omega)]
 | .pair a b,x,x',f+1,o,s,g,cs,h,ho,hg,hk=>by
  simp only[qZ,Option.bind_eq_some_iff] at h
  obtain⟨y,hy,he⟩:=h
  cases he
  simp only[dv,Option.map_eq_some_iff] at ho
  obtain⟨q,hq,he⟩:=ho
  cases he
  obtain⟨c1,d,rfl,h1,h2⟩:=hk
  obtain⟨h3,h4⟩:=O9 (t:=b) hy hq hg h2
  have hl:=eE h1
  refine⟨⟨c1,bc d (q.1+o2) c,?_,h1,h3⟩,by rw[List.length_append]; omega⟩
  rw[Nat.add_assoc,←hl,uN]
 | .int _,_,_,_,_,_,_,_,h,_,_,_=>by simp[qZ] at h
 | .bool,_,_,_,_,_,_,_,h,_,_,_=>by simp[qZ] at h
 | .err,_,_,_,_,_,_,_,h,_,_,_=>by simp[qZ] at h
 | .str,_,_,_,_,_,_,_,h,_,_,_=>by simp[qZ] at h
 | .unit,_,_,_,_,_,_,_,h,_,_,_=>by simp[qZ] at h
 | .agg _,_,_,_,_,_,_,_,h,_,_,_=>by simp[qZ] at h
 | .slice _ _,_,_,_,_,_,_,_,h,_,_,_=>by simp[qZ] at h
theorem Pa {s:Ty} {c:List Value} {u:(s:Ty)→Option s.den} (hu : ∀ y,u s=some y→RK L s y c) : ∀ {p:List Nat} {t:Ty} {x x':t.den} {o:Nat} {cs:List Value},uG p t x u=some x'→fC t p=some (o,s) →
  RK L t x cs→RK L t x' (bc cs o c)∧o+c.length≤cs.length
 | [],t,x,x',o,cs,h,ho,hk=>by
  have:(0,t)=(o,s):=by cases t <;> simpa[fC] using ho
  cases this
  have h1:=hu x' (by cases s <;> exact h)
  have h2:bc cs 0 c=c:=by
   have:=eE hk
   have:=eE h1
   simp[bc]
   omega
  rw[h2]
  exact⟨h1,by have:=eE hk; have:=eE h1; omega⟩
 | f :: p,.agg t,x,x',o,cs,h,ho,hk=>by
  simp only[fC,Option.bind_eq_some_iff,Option.map_eq_some_iff] at ho
  obtain⟨q,hq,q',hq',he⟩:=ho
  cases he
  exact O9 (t:=t) (x:=x) (x':=x') (show qZ t x f (fun s y=>uG p s y u)=some x' from h) hq (fun y y' c' hy hk'=>Pa hu hy hq' hk') hk
 | f :: p,.int _,_,_,_,_,h,_,_=>by simp[uG] at h
 | f :: p,.bool,_,_,_,_,h,_,_=>by simp[uG] at h
 | f :: p,.err,_,_,_,_,h,_,_=>by simp[uG] at h
 | f :: p,.str,_,_,_,_,h,_,_=>by simp[uG] at h
 | f :: p,.unit,_,_,_,_,h,_,_=>by simp[uG] at h
 | f :: p,.pair _ _,_,_,_,_,h,_,_=>by simp[uG] at h
 | f :: p,.slice _ _,_,_,_,_,h,_,_=>by simp[uG] at h
end
end Go.Proofs.YtnodjiikdgmeaaaGreatDoor.Abs
namespace Go.Proofs.YtnodjiikdgmeaaaGreatDoor.Abs
open Go Go.RowKit
theorem uO : ∀(xs:List Int) (s:ByteArray),xs.foldl (fun r n=>r.push (UInt8.ofNat n.toNat)) s=⟨s.data++(xs.map fun n=>UInt8.ofNat n.toNat).toArray⟩
 | [],s=>by simp
 | x :: xs,s=>by
  rw[List.foldl_cons,uO xs]
  congr 1
  apply Array.toList_inj.1
  simp[ByteArray.push]
section
variable {P:Program} {w:World}
theorem pI {T:TypeId} {t:Ty} (h:gi P T t) {c:List Value} (hl:c.length=t.sz) {b o:Nat} (hc : ∀ j v,c[j]? = some v→w.cell? ⟨b,o+j,none⟩=some v):(loadVar T ⟨b,o,none⟩).run P w = .ok (mk t c) w:=by
 have hload:(loadCells ⟨b,o,none⟩ t.sz).run P w = .ok c.toArray w:=by
  rw[←hl]
  exact run_loadCells_list w _ c (fun j v hj=>by rw[iA]; exact hc j v hj)
 simp only[loadVar,Sem.run_bind,h.isAgg,Result.andThen_ok]
 by_cases ha:pG t=true
 ·obtain⟨u,rfl⟩ : ∃ u,t = .agg u:=by cases t <;> simp_all [pG]
  simp only[pG,if_true,Sem.run_bind,h.sizeOf,Result.andThen_ok,hload,Sem.run_pure]
  rfl
 ·rw[if_neg ha]
  have h1:t.sz=1:=by
   rcases h.one with h1 | ⟨u,rfl⟩
   ·exact h1
   ·simp[pG] at ha
  obtain⟨x,rfl⟩:=List.length_eq_one_iff.1 (hl.trans h1)
  have:=hc 0 x rfl
  simp only[Nat.add_zero] at this
  rw[run_load,this]
  cases t <;> first | rfl | (simp[pG] at ha)
end
section
variable {P:Program} {w0:World} {X:Nat→Prop} {Pr0:Nat→Nat→Prop} {sl:List SV} {get:Nat→Option aY} {γ:Nat→Option G} {Pr:Nat→Nat→Prop} {a:Act} {w:World} {res:aH} {r0:Nat}
theorem bm.tys (hI:bm w0 X Pr0 sl get γ Pr a w) (hk : ∀ r x,az res r=some x→get r=some x):pH γ res:=by
 intro r e t xs h
 rcases h with⟨fr,h⟩ | h
 ·obtain⟨v,css,hv,_⟩:=hI.res r _ (hk r _ h)
  exact⟨v,hv⟩
 ·obtain⟨v,hv,_⟩:=hI.res r _ (hk r _ h)
  exact⟨v,hv⟩
theorem EP (hI:bm w0 X Pr0 sl get γ Pr a w) {r:Nat} {bt s:Ty} {c v:SV} {path:List Nat} {u:Value} {T:TypeId} (hu:RV (Ln Pr w) γ (.ptr r s path) u) (hg:get r=some (.box bt c)) (hT:gi P T s) (hv:xF path c=some v) :
  ∃ cs,(Instr.loadAt T u).run P w = .ok (mk s cs) w∧RT (Ln Pr w) γ s v cs:=by
 obtain⟨b,arr,T',hb,hh,hr⟩:=hI.res r _ hg
 cases hu with
 | ptr h hp =>
  rw[hb] at h
  cases h
  obtain⟨s',o',cs,h1,h2,h3⟩:=IY hr hv
  rw[hp] at h1
  cases h1
  refine⟨cs,?_,h2⟩
  simp only[Instr.loadAt,Instr.sureAddr,Sem.run_bind,Sem.run_pure,Result.andThen_ok]
  refine pI hT (iM h2) fun j v hj => ?_
  rw[cell_of_row w b _ arr T' (0,0) hh]
  simpa using h3 j v hj
theorem SM {L:Lk} (hL : ∀ b o v,L b o v→w.cell? ⟨b,o,none⟩=some v) {s:Ty} {x:s.den} {u:Value} {T:TypeId} (hu:RV L γ (.eptr s x) u) (hT:gi P T s) : ∃ cs,(Instr.loadAt T u).run P w = .ok (mk s cs) w∧RK L s x cs:=by
 cases hu with
 | eptr h hc =>
  refine⟨_,?_,h⟩
  simp only[Instr.loadAt,Instr.sureAddr,Sem.run_bind,Sem.run_pure,Result.andThen_ok]
  exact pI hT (eE h) fun j v hj=>hL _ _ _ (hc j v hj)
theorem U3 (hI:bm w0 X Pr0 sl get γ Pr a w) {r:Nat} {e:TypeId} {t:Ty} {xs:List t.den} {fr:Bool} (hg:get r=some (.row e t xs fr)) {b n cap:Nat} (hb:γ r=some (.row e t (.slice (some ⟨b,0,none⟩) n cap))) {i:Nat} (hi:i < n) :
  n=xs.length ∧ ∃ c,RK (Ln Pr w) t (xs.getD i t.dflt) c ∧ ∀ j v,c[j]? = some v→w.cell? ⟨b,i*t.sz+j,none⟩=some v:=by
 obtain⟨v,css,hv,he,ho,_⟩:=hI.res r _ hg
 rw[hb] at hv
 cases hv
 rcases ho.2 with⟨hn,_⟩ | ⟨g,cap',cur,hs,_,hh,hnc,_,_,ht⟩
 ·cases hn
 ·cases hs
  refine⟨rfl,?_⟩
  have hi':i < css.length:=by rw[he.1]; exact hi
  refine⟨css[i],?_,fun j u hj => ?_⟩
  ·have:=he.2 i hi hi'
   rwa[List.getD_eq_getElem?_getD,List.getElem?_eq_getElem hi,Option.getD_some]
  ·have hjs:j < t.sz:=by
    have:=he.lens _ (List.getElem_mem hi')
    rw[←this]
    exact(List.getElem?_eq_some_iff.1 hj).1
   have hfl:css.flatten[i*t.sz+j]? = some u:=(nZ he.lens (List.getElem?_eq_getElem hi') hjs).trans hj
   have:=ho.cells (g:=b) rfl _ _ hfl
   rwa[iA,Nat.zero_add] at this
theorem SN (hI:bm w0 X Pr0 sl get γ Pr a w) {r:Nat} {e:TypeId} {t s s0:Ty} {xs:List t.den} {fr:Bool} {y:s.den} {i:Int} {path:List Nat} {u:Value} {T:TypeId} (hu:RV (Ln Pr w) γ (.rptr r s0 i path) u) (hg:get r=some (.row e t xs fr)) (hT:gi P T s)
  (hv:pC path t (xs.getD i.toNat t.dflt)=some (.val s y)) : ∃ cs,(Instr.loadAt T u).run P w = .ok (mk s cs) w∧RK (Ln Pr w) s y cs:=by
 cases hu with
 | rptr h h0 hn hp =>
  obtain⟨v,css,hv',_⟩:=hI.res r _ hg
  rw[h] at hv'
  cases hv'
  obtain⟨_,c,h1,h2⟩:=U3 hI hg h (i:=i.toNat) (by omega)
  obtain⟨s',y',o',he,ho,hc⟩:=O5 (L:=Ln Pr w) hv
  cases he
  rw[hp] at ho
  cases ho
  obtain⟨c',h3,h4⟩:=hc c h1
  refine⟨c',?_,h3⟩
  simp only[Instr.loadAt,Instr.sureAddr,Sem.run_bind,Sem.run_pure,Result.andThen_ok]
  refine pI hT (eE h3) fun j v hj => ?_
  rw[Nat.add_assoc]
  exact h2 _ _ (h4 j v hj)
theorem U4 (hr:pH γ res) {L:Lk} {T:TypeId} {t:Ty} {x v:SV} {f:Nat} {u:Value} (hU:mY P T t) (hx:RV L γ x u) (hf:gl res 9 t x=true) (hg:zq x f=some v) : ∃ s cs,(Instr.field T u f).run P w = .ok (mk s cs) w∧RT L γ s v cs:=by
 obtain⟨cs,rfl,hrt⟩:=CZ hr hx hf
 obtain⟨t',s,o,c,rfl,ho,h1,h2⟩:=Lg hrt hg
 obtain⟨fs,hfs,hok⟩:=hU
 obtain⟨fl,h3,h4,h5,h6⟩:=xP hok ho
 refine⟨s,c,?_,h1⟩
 have h3':fs[f]? = some fl:=by simpa using h3
 simp only[Instr.field,Sem.run_bind,run_underlying hfs,Result.andThen_ok,h3']
 simp only[mk,asAgg,Sem.run_bind,Sem.run_pure,Result.andThen_ok]
 rw[h4,Nat.zero_add]
 exact HN h6 (iM h1) h2 w
theorem uP {T:TypeId} {t s:Ty} {f o':Nat} {b o:Nat} (hU:mY P T (.agg t)) (hf:dv t f=some (o',s)):(Instr.fieldAt T (.pointer (some ⟨b,o,none⟩)) f).run P w = .ok (.pointer (some ⟨b,o+o',none⟩)) w:=by
 obtain⟨fs,hfs,hok⟩:=hU
 obtain⟨fl,h3,h4,h5,h6⟩:=xP hok hf
 have h3':fs[f]? = some fl:=by simpa using h3
 simp only[Instr.fieldAt,Sem.run_bind,run_underlying hfs,Result.andThen_ok,h3',Instr.sureAddr,Sem.run_pure,fieldPlace,h6.sizeOf]
 rw[if_neg (by omega)]
 simp only[Sem.run_pure,Result.andThen_ok,iA,h4,Nat.zero_add]
theorem U5 {src dst e:TypeId} {xs:List Int} {u:Value} (hs:P.underlying src=some (.slice e)) (he:P.underlying e=some (.int .u8)) (hd:P.underlying dst=some .string) (h:RK (DW w) (.slice e (.int .u8)) xs [u]) :
  (convert src dst u).run P w = .ok (.string (strOfNums xs)) w:=by
 obtain⟨A,cap,hu,hcap,hA⟩:=h
 cases hu
 rcases A with _ | ad
 ·have h0:xs=[]:=by
   by_cases hx:xs=[]
   ·exact hx
   ·obtain⟨b,o,h,_⟩:=hA hx
    cases h
  subst h0
  exact run_convert_bytes_nil w src e hs he 0 cap dst hd
 ·have hl:(loadCells ad (xs:List Int).length).run P w = .ok (xs.map (Value.int .u8)).toArray w:=by
   by_cases hx:xs=[]
   ·subst hx
    exact run_loadCells_list (P:=P) w ad [] (fun j v hj=>by simp at hj)
   ·obtain⟨b,o,h,hh⟩:=hA hx
    cases h
    have:=run_loadCells_list (P:=P) w ⟨b,o,none⟩ (xs.map (Value.int .u8)) (fun j v hj=>by
     rw[List.getElem?_map,Option.map_eq_some_iff] at hj
     obtain⟨x,hj,rfl⟩:=hj
     obtain⟨hjl,hj⟩:=List.getElem?_eq_some_iff.1 hj
     obtain⟨c,h1,h2⟩:=hh j hjl
     rw[show c=_ from h1] at h2
     have:=(h2 0 _ rfl).2
     rw[iA]
     simp only[Ty.sz,Nat.mul_one,Nat.add_zero] at this
     rw[this]
     exact congrArg (fun z=>some (Value.int IntKind.u8 z)) hj)
    simpa using this
  rw[run_convert_bytes_string w src dst e _ _ cap hs he hd,run_bytesToString w ad _ cap xs hl,uO]
  simp[strOfNums,ByteArray.empty,ByteArray.emptyWithCapacity]
  rfl
end
end Go.Proofs.YtnodjiikdgmeaaaGreatDoor.Abs
namespace Go.Proofs.YtnodjiikdgmeaaaGreatDoor.Abs
open Go Go.RowKit
section
variable {P:Program} {E:cO} {call:(I:an)→List SV→aH→Option (I.sh.den×I.bx.den)} {w0:World} {X:Nat→Prop} {Pr0:Nat→Nat→Prop} {sl:List SV} {get:Nat→Option aY} {γ:Nat→Option G} {Pr:Nat→Nat→Prop}
 {a:Act} {w:World} {res:aH} {r0:Nat} {o:Oper} {vs:List SV} {v:SV} {u:Up}
structure fH (P:Program) (E:cO) (call:(I:an)→List SV→aH→Option (I.sh.den×I.bx.den)) (w0:World) (X:Nat→Prop) (Pr0:Nat→Nat→Prop) (sl:List SV) (get:Nat→Option aY) (γ:Nat→Option G) (Pr:Nat→Nat→Prop) (a:Act) (w:World)
  (res:aH) (r0:Nat) (o:Oper) (vs:List SV) (v:SV) (u:Up):Prop where
 env:gf P E
 inv:bm w0 X Pr0 sl get γ Pr a w
 know : ∀ r x,az res r=some x→get r=some x
 free : ∀ r,r0≤r→r < r0+64→γ r=none
 ops:ct (Ln Pr w) γ vs ((ed o.op).map a.eval)
 says:cK E call o vs res r0 cI=some (v,u)
abbrev gD (P:Program) (w0:World) (X:Nat→Prop) (Pr0:Nat→Nat→Prop) (sl:List SV) (get:Nat→Option aY) (γ:Nat→Option G) (Pr:Nat→Nat→Prop) (a:Act) (w:World) (r0:Nat) (o:Oper) (v:SV) (u:Up):Prop :=
 EM P w0 X Pr0 o sl get γ Pr r0 a w v (bq get u)
theorem jp {L:Lk} {x:Value} (h:ct L γ vs [x]) : ∃ p,vs=[p]∧RV L γ p x:=by
 cases h with
 | cons h k =>
  cases k
  exact⟨_,rfl,h⟩
theorem ra {L:Lk} {x y:Value} (h:ct L γ vs [x,y]) : ∃ p q,vs=[p,q]∧RV L γ p x∧RV L γ q y:=by
 cases h with
 | cons h k =>
  obtain⟨q,rfl,hq⟩:=jp k
  exact⟨_,_,rfl,h,hq⟩
theorem SO {L:Lk} {x y z:Value} (h:ct L γ vs [x,y,z]) : ∃ p q r,vs=[p,q,r]∧RV L γ p x∧RV L γ q y∧RV L γ r z:=by
 cases h with
 | cons h k =>
  obtain⟨q,r,rfl,hq,hr⟩:=ra k
  exact⟨_,_,_,rfl,h,hq,hr⟩
theorem b9 (hE:gf P E) {T:TypeId} {t:Ty} (h:dq E.ty T=some t):mY P T t∧gi P T t:=hE.ty T t h
theorem Xa (H:fH P E call w0 X Pr0 sl get γ Pr a w res r0 o vs v u) {T:TypeId} {i:Operand} (hop:o.op = .load T i):gD P w0 X Pr0 sl get γ Pr a w r0 o v u:=by
 obtain⟨hE,hI,hk,hfr,hv,hc⟩:=H
 rw[hop] at hv
 obtain⟨p,rfl,hp⟩:=jp hv
 unfold cK at hc
 simp only[hop] at hc
 have ho:execOp a.eval o=(do pure (.value (←Instr.loadAt T (a.eval i)))):=by simp only[execOp,hop]
 split at hc
 ·rename_i t r s path hT
  split at hc
  ·rename_i hst
   subst hst
   obtain⟨hU,hT⟩:=b9 hE hT
   split at hc
   ·rename_i bt c hg
    split at hc
    ·rename_i l hl
     obtain⟨cs,h1,h2⟩:=EP (P:=P) hI hp (hk _ _ hg) hT hl
     split at hc
     ·rename_i t'
      split at hc
      ·rename_i v' hcl
       cases hc
       cases h2 with
       | strct h2=>exact bd hI ho h1 (FW h2 hcl).1
      ·cases hc
     ·cases hc
    ·rename_i v' hl hne
     cases hc
     obtain⟨cs,h1,h2⟩:=EP (P:=P) hI hp (hk _ _ hg) hT hne
     exact bd hI ho h1 (Qu h2)
    ·cases hc
   ·rename_i g caps hg
    split at hc
    ·cases hc
     obtain⟨b,vs,h1,h2,h3⟩:=hI.res r _ (hk r _ hg)
     generalize hy:a.eval i=y at *
     cases hp with
     | ptr h hpo =>
      rw[h1] at h
      cases h
      cases hpo
      refine bd hI ho ?_ (.fn (O0 h3))
      simp only[Instr.loadAt,Instr.sureAddr,Sem.run_bind,Sem.run_pure,Result.andThen_ok]
      exact pI (t := .fn) (c:=[.func (.func g) #[] vs.toArray]) hT rfl fun j v hj=>by
       cases j with
       | zero =>
        cases hj
        exact h2.2
       | succ j=>simp at hj
    ·cases hc
   ·cases hc
  ·cases hc
 ·rename_i t s x hT
  split at hc
  ·rename_i hst
   subst hst
   cases hc
   obtain⟨cs,h1,h2⟩:=SM (P:=P) (w:=w) (fun b o v h=>h.2) hp (b9 hE hT).2
   exact bd hI ho h1 (.val h2)
  ·cases hc
 ·rename_i t r s0 i' path hT
  split at hc
  ·rename_i e l hg
   split at hc
   ·split at hc
    ·rename_i v' hl
     cases hc
     obtain⟨b,vs,h1,h2,h3⟩:=hI.res r _ (hk r _ hg)
     generalize hy:a.eval i=y at *
     cases hp with
     | rptr h h0 hn hpo =>
      rw[h1] at h
      cases h
      cases hpo
      obtain⟨z,hz,hv'⟩:=O1 h2 hl
      refine bd hI ho ?_ (WO hv')
      simp only[Instr.loadAt,Instr.sureAddr,Sem.run_bind,Sem.run_pure,Result.andThen_ok]
      exact pI (t := .pt) (c:=[z]) (b9 hE hT).2 rfl fun j v hj=>by
       cases j with
       | zero =>
        cases hj
        have:=(h3 _ _ hz).2
        simpa[Ty.sz] using this
       | succ j=>simp at hj
    ·cases hc
   ·cases hc
  ·rename_i e u' xs fr hg
   split at hc
   ·rename_i s y hy
    split at hc
    ·rename_i hst
     subst hst
     cases hc
     obtain⟨cs,h1,h2⟩:=SN (P:=P) hI hp (hk _ _ hg) (b9 hE hT).2 hy
     exact bd hI ho h1 (.val h2)
    ·cases hc
   ·cases hc
  ·cases hc
 ·cases hc
theorem U6 (H:fH P E call w0 X Pr0 sl get γ Pr a w res r0 o vs v u) {T:TypeId} {i:Operand} {f:Nat} (hop:o.op = .field T i f):gD P w0 X Pr0 sl get γ Pr a w r0 o v u:=by
 obtain⟨hE,hI,hk,hfr,hv,hc⟩:=H
 rw[hop] at hv
 obtain⟨p,rfl,hp⟩:=jp hv
 unfold cK at hc
 simp only[hop] at hc
 have ho:execOp a.eval o=(do pure (.value (←Instr.field T (a.eval i) f))):=by simp only[execOp,hop]
 split at hc
 ·rename_i t hT
  split at hc
  ·rename_i hf
   split at hc
   ·rename_i v' hg
    cases hc
    obtain⟨s,cs,h1,h2⟩:=U4 (P:=P) (w:=w) (hI.tys hk) (b9 hE hT).1 hp hf hg
    exact bd hI ho h1 (Qu h2)
   ·cases hc
  ·cases hc
 ·cases hc
theorem Li (H:fH P E call w0 X Pr0 sl get γ Pr a w res r0 o vs v u) {T:TypeId} {i:Operand} {f:Nat} (hop:o.op = .fieldAddr T i f):gD P w0 X Pr0 sl get γ Pr a w r0 o v u:=by
 obtain⟨hE,hI,hk,hfr,hv,hc⟩:=H
 rw[hop] at hv
 obtain⟨p,rfl,hp⟩:=jp hv
 unfold cK at hc
 simp only[hop] at hc
 have ho:execOp a.eval o=(do pure (.value (←Instr.fieldAt T (a.eval i) f))):=by simp only[execOp,hop]
 split at hc
 ·rename_i t hT
  have hU:=(b9 hE hT).1
  split at hc
  ·rename_i r s path
   split at hc
   ·rename_i o' s' hf
    split at hc
    ·rename_i hst
     cases hc
     generalize hx:a.eval i=x at *
     cases hp with
     | ptr h hp'=>exact bd hI ho (uP hU hf) (.ptr h (Bv hp' hst hf))
    ·cases hc
   ·cases hc
  ·rename_i s x
   split at hc
   ·rename_i x' hx'
    obtain⟨rfl,rfl⟩:=kn hx'
    split at hc
    ·rename_i s y hg
     cases hc
     obtain⟨s1,y1,o',he,hf,hcs⟩:=CY (L:=Ln Pr w) hg
     cases he
     generalize hx:a.eval i=x at *
     cases hp with
     | eptr h hcell =>
      obtain⟨c,h1,h2⟩:=hcs _ h
      refine bd hI ho (uP hU hf) (.eptr h1 fun j v hj => ?_)
      rw[Nat.add_assoc]
      exact hcell _ _ (h2 j v hj)
    ·cases hc
   ·cases hc
  ·rename_i r s n path
   split at hc
   ·rename_i o' s' hf
    split at hc
    ·rename_i hst
     cases hc
     generalize hx:a.eval i=x at *
     cases hp with
     | rptr h h0 hn hp' =>
      refine bd hI ho (uP hU hf) ?_
      rw[Nat.add_assoc]
      exact .rptr h h0 hn (Bv hp' hst hf)
    ·cases hc
   ·cases hc
  ·cases hc
 ·cases hc
theorem N6 (H:fH P E call w0 X Pr0 sl get γ Pr a w res r0 o vs v u) {i:Operand} (hop:o.op = .nilCheck i):gD P w0 X Pr0 sl get γ Pr a w r0 o v u:=by
 obtain⟨hE,hI,hk,hfr,hv,hc⟩:=H
 rw[hop] at hv
 obtain⟨p,rfl,hp⟩:=jp hv
 unfold cK at hc
 simp only[hop] at hc
 have main : ∀ ad,a.eval i = .pointer (some ad)→EM P w0 X Pr0 o sl get γ Pr r0 a w p (bq get []):=by
  intro ad hx next Q h
  unfold Oper.wp
  have:(execOp a.eval o).run P w = .ok (.value (.pointer (some ad))) w:=by simp only[execOp,hop,hx,Sem.run_pure]
  rw[this]
  exact h _ γ Pr w (hx ▸ hp) hI (fun _ _=>rfl)
 generalize hx:a.eval i=x at *
 split at hc
 ·cases hc
  cases hp with
  | ptr h hp'=>exact main _ rfl
 ·cases hc
  cases hp with
  | eptr h hp'=>exact main _ rfl
 ·cases hc
  cases hp with
  | rptr h h0 hn hp'=>exact main _ rfl
 ·cases hc
theorem Qv (H:fH P E call w0 X Pr0 sl get γ Pr a w res r0 o vs v u) {i:Operand} {f:Nat} (hop:o.op = .extract i f):gD P w0 X Pr0 sl get γ Pr a w r0 o v u:=by
 obtain⟨hE,hI,hk,hfr,hv,hc⟩:=H
 rw[hop] at hv
 obtain⟨p,rfl,hp⟩:=jp hv
 unfold cK at hc
 simp only[hop] at hc
 have ho:execOp a.eval o=(do pure (.value (←Instr.extract (a.eval i) f))):=by simp only[execOp,hop]
 split at hc
 ·rename_i l
  split at hc
  ·rename_i v' hg
   cases hc
   generalize hx:a.eval i=x at *
   cases hp with
   | tup h =>
    obtain⟨u,h1,h2⟩:=xO h hg
    refine bd hI ho ?_ h2
    simp[Instr.extract,h1]
  ·cases hc
 ·cases hc
theorem N7 (H:fH P E call w0 X Pr0 sl get γ Pr a w res r0 o vs v u) {fn:Fn} {first captured:Array Operand} (hop:o.op = .makeFunc fn first captured):gD P w0 X Pr0 sl get γ Pr a w r0 o v u:=by
 obtain⟨hE,hI,hk,hfr,hv,hc⟩:=H
 rw[hop] at hv
 unfold cK at hc
 simp only[hop] at hc
 have ho:execOp a.eval o=(do pure (.value (←Instr.makeFunc fn (first.map a.eval) (captured.map a.eval)))):=by simp only[execOp,hop]
 cases fn with
 | func g =>
  have hc':(match first.size with
   | 0=>cI (.fn g vs) []
   | _=>none)=some (v,u):=by
   rcases vs with _ | ⟨v1,_ | ⟨v2,_ | ⟨v3,vs⟩⟩⟩ <;> exact hc
  split at hc'
  ·rename_i hs
   cases hc'
   have hf:first = #[]:=Array.size_eq_zero_iff.1 hs
   subst hf
   have:(captured.map a.eval)=(captured.toList.map a.eval).toArray:=by
    apply Array.toList_inj.1
    simp
   refine bd (u := .func (.func g) #[] (captured.toList.map a.eval).toArray) hI ho ?_ ?_
   ·rw[this,Array.map_empty]
    rfl
   refine .fn ?_
   simpa[ed] using hv
  ·cases hc'
 | _=>rcases vs with _ | ⟨v1,_ | ⟨v2,_ | ⟨v3,vs⟩⟩⟩ <;> cases hc
theorem Xb (H:fH P E call w0 X Pr0 sl get γ Pr a w res r0 o vs v u) {op:UnOp} {T:TypeId} {i:Operand} (hop:o.op = .unOp op T i):gD P w0 X Pr0 sl get γ Pr a w r0 o v u:=by
 obtain⟨hE,hI,hk,hfr,hv,hc⟩:=H
 rw[hop] at hv
 obtain⟨p,rfl,hp⟩:=jp hv
 unfold cK at hc
 simp only[hop] at hc
 have ho:execOp a.eval o=(do pure (.value (←Op.unary op (a.eval i)))):=by simp only[execOp,hop]
 split at hc
 ·cases hc
  rw[eA hp] at ho
  exact bd hI ho (by simp[Op.unary,Op.intArith]) eP
 ·cases hc
  rw[iP hp] at ho
  exact bd hI ho (by simp[Op.unary]) iO
 ·cases hc
  rw[eA hp] at ho
  exact bd hI ho (by simp only[Op.unary]; simp[go_sem]) eP
 ·cases hc
theorem Xc (H:fH P E call w0 X Pr0 sl get γ Pr a w res r0 o vs v u) {i j k:Operand} (hop:o.op = .pick i j k):gD P w0 X Pr0 sl get γ Pr a w r0 o v u:=by
 obtain⟨hE,hI,hk,hfr,hv,hc⟩:=H
 rw[hop] at hv
 obtain⟨p,q,r,rfl,hp,hq,hr⟩:=SO hv
 unfold cK at hc
 simp only[hop] at hc
 have ho : ∀ x,a.eval i = .bool x→(execOp a.eval o).run P w = .ok (.value (if x=true then a.eval j else a.eval k)) w:=fun x hx=>by
  simp only[execOp,hop,hx,asBool,Sem.run_bind,Sem.run_pure,Result.andThen_ok]
 split at hc
 ·rename_i x y z
  cases hc
  refine oO hI (ho x (iP hp)) ?_
  rw[iP hq,iP hr]
  cases x
  ·exact iO
  ·exact iO
 ·rename_i x hne
  split at hc
  ·rename_i hx
   cases hc
   refine oO hI (ho x (iP hp)) ?_
   rw[if_pos hx]
   exact hq
  ·rename_i hx
   cases hc
   refine oO hI (ho x (iP hp)) ?_
   rw[if_neg hx]
   exact hr
 ·cases hc
theorem U7 (H:fH P E call w0 X Pr0 sl get γ Pr a w res r0 o vs v u) {T:TypeId} {i j:Operand} (hop:o.op = .index T i j):gD P w0 X Pr0 sl get γ Pr a w r0 o v u:=by
 obtain⟨hE,hI,hk,hfr,hv,hc⟩:=H
 rw[hop] at hv
 obtain⟨p,q,rfl,hp,hq⟩:=ra hv
 unfold cK at hc
 simp only[hop] at hc
 have ho:execOp a.eval o=(do pure (.value (←Instr.index T (a.eval i) (a.eval j)))):=by simp only[execOp,hop]
 split at hc
 ·rename_i s k n hT
  split at hc
  ·rename_i h0
   split at hc
   ·rename_i h1
    cases hc
    rw[fk hp,eA hq] at ho
    refine bd hI ho ?_ eP
    rw[run_index_string _ _ _ _ _ (b9 hE hT).1,dif_pos ⟨h0,h1⟩]
    have hs:Int.toNat n < ByteArray.size s:=(Int.toNat_lt h0).2 h1
    simp[bt,hs]
   ·cases hc
  ·cases hc
 ·cases hc
theorem Qw (H:fH P E call w0 X Pr0 sl get γ Pr a w res r0 o vs v u) {S D:TypeId} {i:Operand} (hop:o.op = .convert S D i):gD P w0 X Pr0 sl get γ Pr a w r0 o v u:=by
 obtain⟨hE,hI,hk,hfr,hv,hc⟩:=H
 rw[hop] at hv
 obtain⟨p,rfl,hp⟩:=jp hv
 unfold cK at hc
 simp only[hop] at hc
 have ho:execOp a.eval o=(do pure (.value (←convert S D (a.eval i)))):=by simp only[execOp,hop]
 have hsome : ∀ {T t},dq E.ty T=some t → ∃ d,P.underlying T=some d:=fun h=>by
  obtain⟨d,hd,_⟩:=(b9 hE h).2.agg
  exact⟨d,hd⟩
 split at hc
 ·rename_i t0 k k' n hS hD
  cases hc
  rw[eA hp] at ho
  obtain⟨d,hd⟩:=hsome hS
  refine bd hI ho ?_ eP
  simp only[convert,Sem.run_bind,run_underlying hd,run_underlying (b9 hE hD).1,Result.andThen_ok]
  cases d <;> simp[Conv.intToInt]
 ·rename_i t0 s hS hD
  cases hc
  rw[fk hp] at ho
  obtain⟨d,hd⟩:=hsome hS
  refine bd hI ho ?_ q7
  simp only[convert,Sem.run_bind,run_underlying hd,run_underlying (b9 hE hD).1,Result.andThen_ok]
  cases d <;> simp
 ·rename_i e hS hD hne
  split at hc
  ·rename_i xs hl
   cases hc
   obtain⟨cs,hx,hrk⟩:=WQ hI hk hp hl
   rw[hx] at ho
   obtain⟨hs,hei,_,hu8⟩:=(b9 hE hS).1
   have hcs:cs=[mk (.slice e (.int .u8)) cs]:=by
    obtain⟨A,cap,rfl,_⟩:=hrk
    rfl
   rw[hcs] at hrk
   exact bd hI ho (U5 hs (hu8 rfl) (b9 hE hD).1 hrk) q7
  ·cases hc
 ·cases hc
end
end Go.Proofs.YtnodjiikdgmeaaaGreatDoor.Abs
namespace Go.Proofs.YtnodjiikdgmeaaaGreatDoor.Abs
open Go Go.RowKit
section
variable {P:Program} {E:cO} {call:(I:an)→List SV→aH→Option (I.sh.den×I.bx.den)} {w0:World} {X:Nat→Prop} {Pr0:Nat→Nat→Prop} {sl:List SV} {get:Nat→Option aY} {γ:Nat→Option G} {Pr:Nat→Nat→Prop}
 {a:Act} {w:World} {res:aH} {r0:Nat} {o:Oper} {vs:List SV} {v:SV} {u:Up}
theorem YY {L:Lk} {e:TypeId} {t:Ty} {xs:List t.den} {u:Value} (h:RK L (.slice e t) xs [u]) {i:Nat} (hi:i < xs.length) :
  ∃ b o cap,u = .slice (some ⟨b,o,none⟩) xs.length cap ∧ ∃ c,RK L t (xs.getD i t.dflt) c ∧ ∀ j v,c[j]? = some v→L b (o+i*t.sz+j) v:=by
 obtain⟨A,cap,hu,hcap,hA⟩:=h
 cases hu
 obtain⟨b,o,rfl,hh⟩:=hA (by intro h; subst h; simp at hi)
 obtain⟨c,h1,h2⟩:=hh i hi
 refine⟨b,o,cap,rfl,c,?_,h2⟩
 rwa[List.getD_eq_getElem?_getD,List.getElem?_eq_getElem hi,Option.getD_some]
theorem tL {T e:TypeId} {t:Ty} {k:IntKind} {n:Int} {b o len cap:Nat} (hU:mY P T (.slice e t)) (h0:0≤n) (h1:n < len):(Instr.indexAt T (.slice (some ⟨b,o,none⟩) len cap) (.int k n)).run P w = .ok (.pointer (some ⟨b,o+n.toNat*t.sz,none⟩)) w:=by
 obtain⟨hT,hei,hsz,_⟩:=hU
 have hel:P.elem T=e:=by simp[Program.elem,hT]
 rw[run_indexAt_slice (h:=by rw[hel]; exact hT),if_pos ⟨h0,h1⟩,hel,hei.sizeOf]
 simp only[Result.andThen_ok,iA]
theorem HP {L:Lk} (hI:bm w0 X Pr0 sl get γ Pr a w) {T e:TypeId} {t:Ty} {xs:List t.den} {k:IntKind} {n:Int} {x:Value} (hU:mY P T (.slice e t)) (hx:RK L (.slice e t) xs [x]) (h0:0≤n) (h1:n < xs.length) :
  ∃ z,(Instr.indexAt T x (.int k n)).run P w = .ok z w∧RV L γ (.eptr t (xs.getD n.toNat t.dflt)) z:=by
 obtain⟨b,o,cap,rfl,c,h2,h3⟩:=YY hx (i:=n.toNat) (by omega)
 exact⟨_,tL hU h0 h1,.eptr h2 h3⟩
theorem U8 {l n:Int} {len:Nat} (h0:0≤l) (h1:0≤n) (h2:n < (len:Int) - l) (h3:l < len):0≤l+n∧l+n < (len:Int)∧(l+n).toNat=l.toNat+n.toNat∧n < ((len - l.toNat:Nat):Int):=by omega
theorem U9 {l:Int} {len:Nat} (h0:0≤l) (h3:l < len):(len:Int) - l=((len - l.toNat:Nat):Int):=by omega
theorem Lj (H:fH P E call w0 X Pr0 sl get γ Pr a w res r0 o vs v u) {T:TypeId} {i j:Operand} (hop:o.op = .indexAddr T i j):gD P w0 X Pr0 sl get γ Pr a w r0 o v u:=by
 obtain⟨hE,hI,hk,hfr,hv,hc⟩:=H
 rw[hop] at hv
 obtain⟨p,q,rfl,hp,hq⟩:=ra hv
 unfold cK at hc
 simp only[hop] at hc
 have ho:execOp a.eval o=(do pure (.value (←Instr.indexAt T (a.eval i) (a.eval j)))):=by simp only[execOp,hop]
 split at hc
 ·rename_i e t k n hT
  have hU:=(b9 hE hT).1
  rw[eA hq] at ho
  split at hc
  ·rename_i r
   split at hc
   ·rename_i e' t' xs fr hg
    split at hc
    ·rename_i hst
     cases hst
     have hres:=hI.res r _ (hk _ _ hg)
     split at hc
     ·split at hc
      ·rename_i h0
       split at hc
       ·rename_i h1
        cases hc
        obtain⟨v',css,hv',he,hown,_⟩:=hres
        generalize hx:a.eval i=x at *
        cases hp with
        | row h =>
         rw[hv'] at h
         cases h
         rcases hown.2 with⟨rfl,hn⟩ | ⟨g,cap,cur,rfl,_,hh,hnc,_⟩
         ·exact absurd h1 (by rw[hn]; exact Int.not_lt.2 h0)
         ·have hp:RV (Ln Pr w) γ (.rptr r t n []) (.pointer (some ⟨g,n.toNat*t.sz+0,none⟩)) := .rptr hv' h0 h1 (by cases t <;> rfl)
          refine bd hI ho ?_ hp
          rw[tL hU h0 h1,Nat.zero_add,Nat.add_zero]
       ·cases hc
      ·cases hc
     ·split at hc
      ·rename_i h0
       split at hc
       ·rename_i h1
        cases hc
        obtain⟨v',hv',hrk⟩:=xQ (Pr':=Pr) hres (fun _ _ h=>h) (by
         obtain⟨v',css,hv',he,hown,hf⟩:=hres
         intro b hb
         refine hf rfl b ?_
         simpa[bB,hv'] using hb)
        generalize hx:a.eval i=x at *
        cases hp with
        | row h =>
         rw[hv'] at h
         cases h
         obtain⟨z,h2,h3⟩:=HP (k:=k) hI hU hrk h0 h1
         exact bd hI ho h2 h3
       ·cases hc
      ·cases hc
    ·cases hc
   ·rename_i e' t' xs hg
    split at hc
    ·rename_i hst
     cases hst
     obtain⟨v',hv',hrk⟩:=hI.res r _ (hk _ _ hg)
     split at hc
     ·rename_i h0
      split at hc
      ·rename_i h1
       cases hc
       generalize hx:a.eval i=x at *
       cases hp with
       | row h =>
        rw[hv'] at h
        cases h
        obtain⟨z,h2,h3⟩:=HP (k:=k) hI hU hrk h0 h1
        exact bd hI ho h2 h3
      ·cases hc
     ·cases hc
    ·cases hc
   ·rename_i e' l hg
    split at hc
    ·rename_i hst
     cases hst
     obtain⟨b,vs,hv',_⟩:=hI.res r _ (hk _ _ hg)
     split at hc
     ·rename_i h0
      split at hc
      ·rename_i h1
       cases hc
       generalize hx:a.eval i=x at *
       cases hp with
       | row h =>
        rw[hv'] at h
        cases h
        have hp:RV (Ln Pr w) γ (.rptr r .pt n []) (.pointer (some ⟨b,n.toNat*Ty.pt.sz+0,none⟩)) := .rptr hv' h0 h1 rfl
        refine bd hI ho ?_ hp
        rw[tL hU h0 h1,Nat.zero_add,Nat.add_zero]
      ·cases hc
     ·cases hc
    ·cases hc
   ·cases hc
  ·rename_i s x
   split at hc
   ·rename_i xs hx
    obtain⟨rfl,rfl⟩:=kn hx
    split at hc
    ·rename_i h0
     split at hc
     ·rename_i h1
      cases hc
      generalize hx:a.eval i=x at *
      cases hp with
      | val h =>
       rename_i cs
       have hcs:cs=[mk (.slice e t) cs]:=by
        obtain⟨A,cap,rfl,_⟩:=h
        rfl
       rw[hcs] at h
       obtain⟨z,h2,h3⟩:=HP (k:=k) hI hU h h0 h1
       exact bd hI ho h2 h3
     ·cases hc
    ·cases hc
   ·cases hc
  ·rename_i r l
   split at hc
   ·rename_i e' t' xs hg
    split at hc
    ·rename_i hst
     cases hst
     split at hc
     ·rename_i h0
      split at hc
      ·rename_i h1
       cases hc
       have hres:=hI.res r _ (hk _ _ hg)
       obtain⟨v',css,hv',he,hown,_⟩:=hres
       generalize hx:a.eval i=x at *
       cases hp with
       | tail h hl0 hln hcap =>
        rename_i b m cap e2 t2
        rw[h] at hv'
        cases hv'
        rcases hown.2 with⟨hnil,_⟩ | ⟨g,cap',cur,hs,_⟩
        ·cases hnil
        ·cases hs
         obtain⟨g1,g2,g3,g4⟩:=U8 hl0 h0 h1 hln
         have hp:RV (Ln Pr w) γ (.rptr r t (l+n) []) (.pointer (some ⟨b,Int.toNat (l+n)*t.sz+0,none⟩)) := .rptr h g1 g2 (by cases t <;> rfl)
         refine bd hI ho ?_ hp
         rw[tL hU h0 g4,g3,Nat.add_zero,Nat.add_mul]
      ·cases hc
     ·cases hc
    ·cases hc
   ·cases hc
  ·cases hc
 ·cases hc
theorem SP (hE:gf P E) {op:BinOp} {T:TypeId} {x y:SV} {p q:Value} {L:Lk} (hx:RV L γ x p) (hy:RV L γ y q) (h:xI E op T x y cI=some (v,u)) :
  u=[]∧(∀ i j,(eqGuard op T i j p q).run P w = .ok () w) ∧ ∃ z,(binOp op T p q).run P w = .ok z w∧RV L γ v z:=by
 have hgd : ∀ {p q:Value},(∀ l,p ≠ .agg l)→(p = .nilIface→False) → ∀ i j,(eqGuard op T i j p q).run P w = .ok () w:=by
  intro p q h1 h2 i j
  cases op <;> first | rfl | (cases p <;> first | rfl | exact absurd rfl (h1 _) | exact absurd rfl h2 | (cases q <;> rfl))
 unfold xI at h
 split at h
 ·rename_i k a k' b
  rw[eA hx,eA hy]
  have hx' : ∀ l,Value.int k a ≠ .agg l:=fun l h=>by cases h
  have hy':Value.int k a = .nilIface→False:=fun h=>by cases h
  split at h
  ·obtain⟨h1,h2⟩:=Lf (T:=T) (k':=k') (.inl rfl) h (P:=P) (w:=w) (L:=L) (γ:=γ)
   exact⟨h1,hgd hx' hy',h2⟩
  ·obtain⟨h1,h2⟩:=Lf (T:=T) (k':=k') (.inr rfl) h (P:=P) (w:=w) (L:=L) (γ:=γ)
   exact⟨h1,hgd hx' hy',h2⟩
  ·split at h
   ·rename_i hk
    subst hk
    obtain⟨h1,h2⟩:=SJ (T:=T) h (P:=P) (w:=w) (L:=L) (γ:=γ)
    exact⟨h1,hgd hx' hy',h2⟩
   ·cases h
 ·rw[fk hx,fk hy]
  obtain⟨h1,h2⟩:=SK (T:=T) h (P:=P) (w:=w) (L:=L) (γ:=γ)
  exact⟨h1,hgd (fun l h=>by cases h) (fun h=>by cases h),h2⟩
 ·rw[iP hx,iP hy]
  refine⟨?_,hgd (fun l h=>by cases h) (fun h=>by cases h),?_⟩
  ·split at h <;> cases h <;> rfl
  ·split at h
   ·rename_i hT
    cases h
    have hu:P.underlying T=some .bool:=(b9 hE hT).1
    exact⟨_,run_eql_bool w T _ _ hu,iO⟩
   ·rename_i hT
    cases h
    have hu:P.underlying T=some .bool:=(b9 hE hT).1
    exact⟨_,run_neq_bool w T _ _ hu,iO⟩
   ·cases h
 ·split at h
  ·rename_i t hT
   obtain⟨⟨s0,rfl⟩,hg,heq⟩:=hE.eqs T t hT
   have hR:iR L γ [] (fun _=>True):=fun r e t xs _ hh=>by rcases hh with⟨_,hh⟩ | hh <;> cases hh
   split at h
   ·rename_i a' b' ha hb
    obtain⟨cs,rfl,kx⟩:=g7 hR (d':=9) (Nat.le_refl _) (fun _ _=>trivial) hx ha
    obtain⟨ds,rfl,ky⟩:=g7 hR (d':=9) (Nat.le_refl _) (fun _ _=>trivial) hy hb
    cases h
    have:=heq L _ _ _ _ w kx ky
    refine⟨rfl,fun i j=>run_eqGuard_agg w .eql T i j _ _ hg,_,?_,iO⟩
    show(binOp .eql T (.agg _) (.agg _)).run P w=_
    rw[run_eql_struct]
    have this:(Op.equalIn 10000 T (.agg _) (.agg _)).run P w=_:=this
    rw[this]
    rfl
   ·rename_i a' b' ha hb
    obtain⟨cs,rfl,kx⟩:=g7 hR (d':=9) (Nat.le_refl _) (fun _ _=>trivial) hx ha
    obtain⟨ds,rfl,ky⟩:=g7 hR (d':=9) (Nat.le_refl _) (fun _ _=>trivial) hy hb
    cases h
    have:=heq L _ _ _ _ w kx ky
    refine⟨rfl,fun i j=>run_eqGuard_agg w .neq T i j _ _ hg,_,?_,iO⟩
    show(binOp .neq T (.agg _) (.agg _)).run P w=_
    rw[run_neq_struct]
    have this:(Op.equalIn 10000 T (.agg _) (.agg _)).run P w=_:=this
    rw[this]
    rfl
   ·cases h
  ·cases h
theorem SQ (hE:gf P E) {op:BinOp} {T:TypeId} {x:SV} {p:Value} {L:Lk} {i:Operand} (hx:RV L γ x p) (h:xJ E op T x cI=some (v,u)) :
  u=[]∧(eqGuard op T i (.const .nilIface) p .nilIface).run P w = .ok () w ∧ ∃ z,(binOp op T p .nilIface).run P w = .ok z w∧RV L γ v z:=by
 unfold xJ at h
 split at h
 ·rename_i b hT
  obtain⟨ms,hu⟩ : ∃ ms,P.underlying T=some (.interface ms):=(b9 hE hT).1
  have hp:(b=true∧p = .nilIface)∨(b=false ∧ ∃ T p',p = .iface T p'):=by
   cases hx with
   | val hk =>
    rcases hk with⟨h1,rfl⟩ | ⟨h1,T',p',rfl⟩
    ·exact .inl ⟨h1,rfl⟩
    ·exact .inr ⟨h1,T',p',rfl⟩
  have heq0 : ∀ d:Nat,(Op.equalIn (d+1) T p .nilIface).run P w = .ok b w:=fun d=>by
   rcases hp with⟨rfl,rfl⟩ | ⟨rfl,T',p',rfl⟩ <;> simp[Op.equalIn,run_underlying hu]
  have heq:(Op.equalIn 10000 T p .nilIface).run P w = .ok b w:=heq0 9999
  split at h
  ·cases h
   refine⟨rfl,?_,.bool b,?_,iO⟩
   ·rcases hp with⟨rfl,rfl⟩ | ⟨rfl,T',p',rfl⟩ <;> simp[eqGuard]
   ·rcases hp with⟨rfl,rfl⟩ | ⟨rfl,T',p',rfl⟩ <;> simp only[binOp,Op.equal,Op.maxDepth,Sem.run_bind,heq,Result.andThen_ok] <;> rfl
  ·cases h
   refine⟨rfl,?_,.bool (Bool.not b),?_,iO⟩
   ·rcases hp with⟨rfl,rfl⟩ | ⟨rfl,T',p',rfl⟩ <;> simp[eqGuard]
   ·rcases hp with⟨rfl,rfl⟩ | ⟨rfl,T',p',rfl⟩ <;> simp only[binOp,Op.equal,Op.maxDepth,Sem.run_bind,heq,Result.andThen_ok] <;> rfl
  ·cases h
 ·cases h
theorem Va (H:fH P E call w0 X Pr0 sl get γ Pr a w res r0 o vs v u) {op:BinOp} {T T':TypeId} {i j:Operand} (hop:o.op = .binOp op T i j T'):gD P w0 X Pr0 sl get γ Pr a w r0 o v u:=by
 obtain⟨hE,hI,hk,hfr,hv,hc⟩:=H
 rw[hop] at hv
 obtain⟨p,q,rfl,hp,hq⟩:=ra hv
 unfold cK at hc
 simp only[hop] at hc
 have ho:execOp a.eval o=(do pure (.value (←(do eqGuard op T i j (a.eval i) (a.eval j); binOp op T (a.eval i) (a.eval j))))):=by simp only[execOp,hop]
 split at hc
 ·rename_i hj
  obtain⟨rfl,hg,z,h3,h4⟩:=SQ (w:=w) (i:=i) hE hp hc
  have hj':j = .const .nilIface:=by
   unfold WN at hj
   split at hj
   ·rfl
   ·cases hj
  subst hj'
  refine bd hI ho ?_ h4
  have he:a.eval (.const .nilIface) = .nilIface:=rfl
  rw[he]
  simp only[Sem.run_bind,hg,Result.andThen_ok,h3]
 obtain⟨rfl,hg,z,h3,h4⟩:=SP (w:=w) hE hp hq hc
 refine bd hI ho ?_ h4
 have hg:=hg i j
 simp only[Sem.run_bind,hg,Result.andThen_ok,h3]
end
end Go.Proofs.YtnodjiikdgmeaaaGreatDoor.Abs
namespace Go.Proofs.YtnodjiikdgmeaaaGreatDoor.Abs
open Go Go.RowKit
def lP (γ:Nat→Option G) (k:Nat) (g:G):Nat→Option G:=fun s=>if s=k then some g else γ s
section
variable {w0:World} {X:Nat→Prop} {Pr0:Nat→Nat→Prop} {sl:List SV} {get:Nat→Option aY} {γ:Nat→Option G} {Pr Pr':Nat→Nat→Prop} {a:Act} {w w':World} {r0:Nat}
theorem zy (h:γ r0=none) {g:G} : ∀ r x,γ r=some x→lP γ r0 g r=some x:=fun r x hr=>by
 unfold lP
 by_cases hk:r=r0
 ·subst hk
  rw[h] at hr
  cases hr
 ·rw[if_neg hk]
  exact hr
theorem bX {g:G}:lP γ r0 g r0=some g:=if_pos rfl
theorem zz {g:G} {r:Nat} (h:r≠r0):lP γ r0 g r=γ r:=if_neg h
theorem bm.none_of (hI:bm w0 X Pr0 sl get γ Pr a w) {r:Nat} (h:γ r=none):get r=none:=by
 cases hg:get r with
 | none=>rfl
 | some x =>
  obtain⟨g,hg⟩:=(hI.res r x hg).γsome
  rw[h] at hg
  cases hg
theorem bm.fresh (hI:bm w0 X Pr0 sl get γ Pr a w) (h0:γ r0=none) (row:Option Nat) (hg:w.grownBy w' row) (g:G) (hgs : ∀ e t v,g = .row e t v → ∃ A n c,v = .slice A n c) (hwf : ∀ b t,g = .box b t→d9 false t=true) (x':aY)
  (hrow : ∀ b,row=some b→(X b∨w0.heap.size≤b) ∧ ∀ r x,get r=some x→bB γ r x≠some b)
  (hP : ∀ b o,Pr b o→Pr' b o) (hP' : ∀ b o,Pr' b o→Pr b o∨bB (lP γ r0 g) r0 x'=some b∧jo x' o)
  (hcell : ∀ b o v,row=some b→Pr b o→w.cell? ⟨b,o,none⟩=some v→w'.cell? ⟨b,o,none⟩=some v)
  (hres:ki (Ln Pr' w') Pr' (lP γ r0 g) w' r0 x') (hblk : ∀ b,bB (lP γ r0 g) r0 x'=some b→row=some b∨w.heap.size≤b)
  (hloose : ∀ b,bB (lP γ r0 g) r0 x'=some b → ∀ o,Pr b o→jo x' o):bm w0 X Pr0 sl (fun s=>if s=r0 then some x' else get s) (lP γ r0 g) Pr' a w':=by
 refine hI.turn r0 (some x') row hg (zy h0) (fun r hr=>zz hr) ?_ (fun b t h=>hwf b t (by rw[bX] at h; simpa using h)) (fun b hb=>⟨(hrow b hb).1,fun r x _ hx=>(hrow b hb).2 r x hx⟩) hP ?_ hcell ?_ ?_
 ·intro e t v h
  rw[bX] at h
  exact hgs e t v (by simpa using h)
 ·intro b o h
  rcases hP' b o h with h | h
  ·exact .inl h
  ·exact .inr ⟨x',rfl,h⟩
 ·intro x hx
  cases hx
  exact hres
 ·intro x b hx hb
  cases hx
  refine⟨?_,?_,hloose b hb⟩
  ·rcases hblk b hb with h | h
   ·exact(hrow b h).1
   ·exact .inr (Nat.le_trans hI.size h)
  ·intro r y hr hy
   rcases hblk b hb with h | h
   ·exact(hrow b h).2 r y hy
   ·intro hyb
    have:=(hI.res r y hy).lt hyb
    omega
theorem bm.newBox (hI:bm w0 X Pr0 sl get γ Pr a w) (h0:γ r0=none) {t:Ty} {c:SV} {cs:Array Value} {T:TypeId} (hwf:d9 false t=true) (hc:RT (Ln Pr w) γ t c cs.toList) :
  bm w0 X Pr0 sl (fun s=>if s=r0 then some (.box t c) else get s) (lP γ r0 (.box w.heap.size t)) Pr a (w.alloc (.cells cs T)):=by
 refine hI.fresh h0 none (World.grownBy_alloc w _ none) _ (fun e t v h=>by cases h) (fun b t h=>by cases h; exact hwf) _ (fun b hb=>by cases hb) (fun _ _ h=>h) (fun b o h => .inl h) (fun b o v hb=>by cases hb) ?_ ?_ ?_
 ·refine⟨w.heap.size,cs,T,bX,heap_alloc_new w _,q6 ?_ (zy h0) hc⟩
  exact mZ hI.prIn (World.grownBy_alloc w _ none) (fun _ _ h=>h) (fun b o v hb=>by cases hb)
 ·intro b hb
  simp only[bB,bX,Option.some.injEq] at hb
  exact .inr (by omega)
 ·intro b hb o ho
  simp only[bB,bX,Option.some.injEq] at hb
  have:=hI.prIn b o ho
  omega
theorem Xd {L:Lk} {t:Ty} {xs ys:List t.den} {css dss:List (List Value)} (h:mb L t xs css) (k:mb L t ys dss):mb L t (xs++ys) (css++dss):=by
 refine⟨by rw[List.length_append,List.length_append,h.1,k.1],fun i hi hi' => ?_⟩
 by_cases hx:i < xs.length
 ·rw[List.getElem_append_left hx,List.getElem_append_left (by rw[h.1]; exact hx)]
  exact h.2 i hx _
 ·rw[List.getElem_append_right (by omega),List.getElem_append_right (by rw[h.1]; omega)]
  have:=k.2 (i - xs.length) (by rw[List.length_append] at hi; omega) (by rw[k.1]; rw[List.length_append] at hi; omega)
  simpa only[h.1] using this
theorem mb.flat {L:Lk} {t:Ty} {xs:List t.den} {css:List (List Value)} (h:mb L t xs css):css.flatten.length=xs.length*t.sz:=by
 rw[←h.1]
 have : ∀(l:List (List Value)),(∀ c∈l,c.length=t.sz)→l.flatten.length=l.length*t.sz:=by
  intro l
  induction l with
  | nil=>intro _; simp
  | cons c l ih =>
   intro hl
   rw[List.flatten_cons,List.length_append,List.length_cons,Nat.succ_mul,ih (fun d hd=>hl d (List.mem_cons_of_mem _ hd)),hl c (by simp)]
   omega
 exact this css h.lens
theorem bm.newRow (hI:bm w0 X Pr0 sl get γ Pr a w) (h0:γ r0=none) {e:TypeId} {t:Ty} {xs:List t.den} {css:List (List Value)} {cs:Array Value} (hc:mb (Ln Pr w) t xs css) (hf:css.flatten=cs.toList) (hm:xs.length≤maxLen) :
  bm w0 X Pr0 sl (fun s=>if s=r0 then some (.row e t xs false) else get s) (lP γ r0 (.row e t (.slice (some ⟨w.heap.size,0,none⟩) xs.length xs.length))) Pr a (w.alloc (.cells cs e)):=by
 refine hI.fresh h0 none (World.grownBy_alloc w _ none) _ (fun e t v h=>by cases h; exact⟨_,_,_,rfl⟩) (fun b t h=>by cases h) _ (fun b hb=>by cases hb) (fun _ _ h=>h) (fun b o h => .inl h) (fun b o v hb=>by cases hb) ?_ ?_ ?_
 ·refine⟨_,css,bX,oP (mZ hI.prIn (World.grownBy_alloc w _ none) (fun _ _ h=>h) (fun b o v hb=>by cases hb)) hc,?_,fun h=>by cases h⟩
  rw[hf]
  refine World.ownsRow_lit w cs xs.length (Nat.zero_le _) hm ?_
  rw[←Array.length_toList,←hf,hc.flat]
 ·intro b hb
  simp only[bB,bX,Value.ownBlock,Option.some.injEq] at hb
  exact .inr (by omega)
 ·intro b hb o ho
  simp only[bB,bX,Value.ownBlock,Option.some.injEq] at hb
  have:=hI.prIn b o ho
  omega
theorem bm.nilRow (hI:bm w0 X Pr0 sl get γ Pr a w) (h0:γ r0=none) {e:TypeId} {t:Ty} :
  bm w0 X Pr0 sl (fun s=>if s=r0 then some (.row e t [] false) else get s) (lP γ r0 (.row e t (.slice none 0 0))) Pr a w:=by
 refine hI.fresh h0 none ⟨rfl,rfl,rfl,Nat.le_refl _,fun _ _ _=>rfl⟩ _ (fun e t v h=>by cases h; exact⟨_,_,_,rfl⟩) (fun b t h=>by cases h) _ (fun b hb=>by cases hb) (fun _ _ h=>h) (fun b o h => .inl h) (fun b o v hb=>by cases hb) ?_ ?_ ?_
 ·exact⟨_,[],bX,⟨rfl,fun i hi=>by simp at hi⟩,World.ownsRow_nil w 0 e t.sz,fun h=>by cases h⟩
 ·intro b hb
  simp[bB,bX,Value.ownBlock] at hb
 ·intro b hb
  simp[bB,bX,Value.ownBlock] at hb
theorem SR (hgs : ∀ r e t v,γ r=some (.row e t v) → ∃ A n c,v = .slice A n c) {L:Lk} {t:Ty} {v:SV} {cs:List Value} (h:RT L γ t v cs) : ∀ x∈cs,x.oneCell'=true:=by
 induction h using RT.rec (motive_2:=fun t _ cs _ => ∀ x∈cs,x.oneCell'=true) with
 | val h=>exact pF h
 | nilS =>
  intro x hx
  rw[List.mem_singleton.1 hx]
  rfl
 | row h =>
  intro x hx
  rw[List.mem_singleton.1 hx]
  obtain⟨A,n,c,rfl⟩:=hgs _ _ _ _ h
  rfl
 | strct h ih=>exact ih
 | nil=>rename_i x hx; simp at hx
 | cons h k ih1 ih2 =>
  rename_i x hx
  rcases List.mem_append.1 hx with hx | hx
  ·exact ih1 x hx
  ·exact ih2 x hx
theorem EQ (hgs : ∀ r e t v,γ r=some (.row e t v) → ∃ A n c,v = .slice A n c) {L:Lk} {t:Ty} {v:SV} {cs:List Value} (h:RT L γ t v cs) (ht:t.sz=1 ∨ ∃ u,t = .agg u):(mk t cs).cells=cs.toArray:=by
 rcases ht with ht | ⟨u,rfl⟩
 ·obtain⟨x,rfl⟩:=List.length_eq_one_iff.1 ((iM h).trans ht)
  have h1:=SR hgs h x (by simp)
  cases t <;> first | rfl | (show x.cells = #[x]; cases x <;> first | rfl | cases h1)
 ·rfl
end
theorem bm.rebind {w0:World} {X:Nat→Prop} {Pr0:Nat→Nat→Prop} {sl:List SV} {get:Nat→Option aY} {γ:Nat→Option G} {Pr:Nat→Nat→Prop} {a:Act} {w w':World} {r r0:Nat} (hI:bm w0 X Pr0 sl get γ Pr a w)
  {e:TypeId} {t:Ty} {xs xs':List t.den} {fr:Bool} {css':List (List Value)} {v v':Value} (hr:get r=some (.row e t xs fr)) (h0:γ r0=none) (hv:γ r=some (.row e t v)) (hg:w.grownBy w' v.ownBlock)
  (hown:w'.ownsRow 0 e t.sz v' xs'.length css'.flatten) (hels:mb (Ln Pr w) t xs' css') (hcells:fr=true → ∀ b,v.ownBlock=some b → ∀ o,o < xs.length*t.sz→w'.cell? ⟨b,o,none⟩=w.cell? ⟨b,o,none⟩)
  (hgs : ∃ A n c,v' = .slice A n c) (hwh : ∀ b,v'.ownBlock=some b→v.ownBlock=some b∨w.heap.size≤b) (hlen:fr=true→xs.length≤xs'.length) :
  ∃ Pr',bm w0 X Pr0 sl (fun s=>if s=r0 then some (.row e t xs' fr) else if s=r then(KN e t xs fr) else get s) (lP γ r0 (.row e t v')) Pr' a w' ∧ ∀ b o,Pr b o→Pr' b o:=by
 have hbr : ∀ b,v.ownBlock=some b→bB γ r (.row e t xs fr)=some b:=fun b hb=>by simp only[bB,hv,hb]
 have hI1:bm w0 X Pr0 sl (fun s=>if s=r then(KN e t xs fr) else get s) γ Pr a w:=by
  refine hI.turn r _ none ⟨rfl,rfl,rfl,Nat.le_refl _,fun _ _ _=>rfl⟩ (fun _ _ h=>h) (fun _ _=>rfl) (fun e t v h=>hI.gs r e t v h) (fun b t h=>hI.wfs r b t h) (fun b hb=>by cases hb) (fun b o h=>h) (fun b o h => .inl h) (fun b o v hb=>by cases hb) ?_ ?_
  ·intro x hx
   cases fr with
   | false=>cases hx
   | true =>
    cases hx
    have hres:=hI.res r _ hr
    exact xQ hres (fun _ _ h=>h) (fun b hb o ho=>by
     obtain⟨v1,css,h1,h2,h3,h4⟩:=hres
     refine h4 rfl b ?_ o ho
     simpa[bB,h1] using hb)
  ·intro x b hx hb
   cases fr with
   | false=>cases hx
   | true =>
    cases hx
    cases hb
 have hne:r≠r0:=fun h=>by rw[←h,hv] at h0; cases h0
 have hother : ∀ b,v.ownBlock=some b→(X b∨w0.heap.size≤b) ∧ ∀ r' x,r'≠r0→(if r'=r then(KN e t xs fr) else get r')=some x→bB γ r' x≠some b:=by
  intro b hb
  refine⟨hI.where_ r _ b hr (hbr b hb),fun r' x _ hx => ?_⟩
  by_cases hrr:r'=r
  ·rw[if_pos hrr] at hx
   cases fr with
   | false=>cases hx
   | true =>
    cases hx
    intro h
    cases h
  ·rw[if_neg hrr] at hx
   exact hI.apart r r' _ x b hr hx (fun e=>hrr e.symm) (hbr b hb)
 have hbl : ∀ b,bB (lP γ r0 (.row e t v')) r0 (.row e t xs' fr)=some b→v'.ownBlock=some b:=fun b hb=>by simpa[bB,bX] using hb
 refine⟨fun b o=>Pr b o∨(fr=true∧v'.ownBlock=some b∧o < xs'.length*t.sz),?_,fun b o h => .inl h⟩
 have hcell : ∀ b o u,v.ownBlock=some b→Pr b o→w.cell? ⟨b,o,none⟩=some u→w'.cell? ⟨b,o,none⟩=some u:=by
  intro b o u hb ho hu
  have hl:=hI.loose r _ b hr (hbr b hb) o ho
  cases fr with
  | false=>exact hl.elim
  | true =>
   rw[hcells rfl b hb o hl]
   exact hu
 refine hI1.turn r0 _ v.ownBlock hg (zy h0) (fun s hs=>zz hs) ?_ (fun b t h=>by rw[bX] at h; cases h) hother (fun b o h => .inl h) ?_ hcell ?_ ?_
 ·intro e' t' v1 h
  rw[bX] at h
  cases h
  exact hgs
 ·intro b o h
  rcases h with h | ⟨h1,h2,h3⟩
  ·exact .inl h
  ·refine .inr ⟨_,rfl,by simp[bB,bX,h2],?_⟩
   subst h1
   exact h3
 ·intro x hx
  cases hx
  refine⟨v',css',bX,oP ?_ hels,hown,fun h b hb o ho => .inr ⟨h,hb,ho⟩⟩
  exact mZ hI.prIn hg (fun b o h => .inl h) hcell
 ·intro x b hx hb
  cases hx
  have hb':=hbl b hb
  rcases hwh b hb' with h | h
  ·obtain⟨h1,h2⟩:=hother b h
   refine⟨h1,h2,fun o ho => ?_⟩
   have hl:=hI.loose r _ b hr (hbr b h) o ho
   cases fr with
   | false=>exact hl.elim
   | true=>exact Nat.lt_of_lt_of_le hl (Nat.mul_le_mul_right _ (hlen rfl))
  ·refine⟨.inr (Nat.le_trans hI.size h),fun r' y _ hy hyb => ?_,fun o ho => ?_⟩
   ·have:=(hI1.res r' y hy).lt hyb
    omega
   ·have:=hI.prIn b o ho
    omega
section
variable {P:Program} {E:cO} {call:(I:an)→List SV→aH→Option (I.sh.den×I.bx.den)} {w0:World} {X:Nat→Prop} {Pr0:Nat→Nat→Prop} {sl:List SV} {get:Nat→Option aY} {γ:Nat→Option G} {Pr:Nat→Nat→Prop}
 {a:Act} {w:World} {res:aH} {r0:Nat} {o:Oper} {vs:List SV} {v:SV} {u:Up}
theorem mc {g:G} : ∀ r,¬(r0≤r∧r < r0+64)→lP γ r0 g r=γ r:=fun r h=>zz (fun e=>h (by omega))
theorem md : ∀(t:Ty),(∀(v:SV) (n:Nat),n≤(aP t v n).2.2)∧(∀(l:List SV) (n:Nat),n≤(aP.go t l n).2.2)
 | .int _=>⟨fun v n=>Nat.le_refl _,fun l n=>Nat.le_refl _⟩
 | .bool=>⟨fun v n=>Nat.le_refl _,fun l n=>Nat.le_refl _⟩
 | .str=>⟨fun v n=>Nat.le_refl _,fun l n=>Nat.le_refl _⟩
 | .err=>⟨fun v n=>Nat.le_refl _,fun l n=>Nat.le_refl _⟩
 | .fn=>⟨fun v n=>Nat.le_refl _,fun l n=>Nat.le_refl _⟩
 | .pt=>⟨fun v n=>Nat.le_refl _,fun l n=>Nat.le_refl _⟩
 | .unit=>⟨fun v n=>Nat.le_refl _,fun l n=>Nat.le_refl _⟩
 | .slice _ _=>⟨fun v n=>by cases v <;> first | exact Nat.le_refl _ | exact Nat.le_succ _,fun l n=>Nat.le_refl _⟩
 | .agg t=>⟨fun v n=>by
   cases v <;> first | exact Nat.le_refl _ | skip
   rename_i l
   exact(md t).2 l n,fun l n=>Nat.le_refl _⟩
 | .pair x y=>⟨fun v n=>Nat.le_refl _,fun l n=>by
   cases l with
   | nil=>exact Nat.le_refl _
   | cons v l=>exact Nat.le_trans ((md x).1 v n) ((md y).2 l (aP x v n).2.2)⟩
theorem X5 {L:Lk} {γ:Nat→Option G} {t:Ty} {l:List SV} {cs:List Value} (h:RT L γ t (.strct l) cs):RV L γ (.strct l) (.agg cs.toArray):=by
 cases h with
 | strct h=>exact .strct h
theorem me : ∀(t:Ty),(∀(v:SV) (n:Nat) (t0:Ty) (cs:List Value) (get:Nat→Option aY) (γ:Nat→Option G),bm w0 X Pr0 sl get γ Pr a w→(∀ r,n≤r→r < (aP t v n).2.2→γ r=none)→RT (Ln Pr w) γ t0 v cs →
   ∃ γ' t',bm w0 X Pr0 sl (bq get (aP t v n).2.1) γ' Pr a w∧RT (Ln Pr w) γ' t' (aP t v n).1 cs∧(∀ r,¬(n≤r∧r < (aP t v n).2.2)→γ' r=γ r)∧(t0=t→t'=t)) ∧
  (∀(l:List SV) (n:Nat) (t0:Ty) (cs:List Value) (get:Nat→Option aY) (γ:Nat→Option G),bm w0 X Pr0 sl get γ Pr a w→(∀ r,n≤r→r < (aP.go t l n).2.2→γ r=none)→gC (Ln Pr w) γ t0 l cs →
   ∃ γ' t',bm w0 X Pr0 sl (bq get (aP.go t l n).2.1) γ' Pr a w∧gC (Ln Pr w) γ' t' (aP.go t l n).1 cs∧(∀ r,¬(n≤r∧r < (aP.go t l n).2.2)→γ' r=γ r)∧(t0=t→t'=t))
 | .int _=>⟨fun v n t0 cs get γ hI hf h=>⟨γ,t0,hI,h,fun _ _=>rfl,id⟩,fun l n t0 cs get γ hI hf h=>⟨γ,t0,hI,h,fun _ _=>rfl,id⟩⟩
 | .bool=>⟨fun v n t0 cs get γ hI hf h=>⟨γ,t0,hI,h,fun _ _=>rfl,id⟩,fun l n t0 cs get γ hI hf h=>⟨γ,t0,hI,h,fun _ _=>rfl,id⟩⟩
 | .str=>⟨fun v n t0 cs get γ hI hf h=>⟨γ,t0,hI,h,fun _ _=>rfl,id⟩,fun l n t0 cs get γ hI hf h=>⟨γ,t0,hI,h,fun _ _=>rfl,id⟩⟩
 | .err=>⟨fun v n t0 cs get γ hI hf h=>⟨γ,t0,hI,h,fun _ _=>rfl,id⟩,fun l n t0 cs get γ hI hf h=>⟨γ,t0,hI,h,fun _ _=>rfl,id⟩⟩
 | .fn=>⟨fun v n t0 cs get γ hI hf h=>⟨γ,t0,hI,h,fun _ _=>rfl,id⟩,fun l n t0 cs get γ hI hf h=>⟨γ,t0,hI,h,fun _ _=>rfl,id⟩⟩
 | .pt=>⟨fun v n t0 cs get γ hI hf h=>⟨γ,t0,hI,h,fun _ _=>rfl,id⟩,fun l n t0 cs get γ hI hf h=>⟨γ,t0,hI,h,fun _ _=>rfl,id⟩⟩
 | .unit=>⟨fun v n t0 cs get γ hI hf h=>⟨γ,t0,hI,h,fun _ _=>rfl,id⟩,fun l n t0 cs get γ hI hf h=>⟨γ,t0,hI,h,fun _ _=>rfl,id⟩⟩
 | .slice e t=>⟨fun v n t0 cs get γ hI hf h=>by
   cases h with
   | nilS =>
    have h0:γ n=none:=hf n (Nat.le_refl _) (Nat.lt_succ_self _)
    refine⟨lP γ n (.row e t (.slice none 0 0)),.slice e t,hI.nilRow h0,.row bX,fun r hr => ?_,fun _=>rfl⟩
    exact if_neg (fun e=>hr (by subst e; exact⟨Nat.le_refl _,Nat.lt_succ_self _⟩))
   | val h=>exact⟨γ,t0,hI,.val h,fun _ _=>rfl,id⟩
   | row h=>exact⟨γ,_,hI,.row h,fun _ _=>rfl,id⟩
   | strct h=>exact⟨γ,_,hI,.strct h,fun _ _=>rfl,id⟩,fun l n t0 cs get γ hI hf h=>⟨γ,t0,hI,h,fun _ _=>rfl,id⟩⟩
 | .agg t=>⟨fun v n t0 cs get γ hI hf h=>by
   cases h with
   | strct h =>
    obtain⟨γ',t',h1,h2,h3,h4⟩:=(me t).2 _ n _ cs get γ hI hf h
    exact⟨γ',.agg t',h1,.strct h2,h3,fun e=>by cases e; rw[h4 rfl]⟩
   | nilS =>
    rename_i e0 t1
    exact⟨γ,.slice e0 t1,hI,.nilS,fun _ _=>rfl,id⟩
   | val h=>exact⟨γ,t0,hI,.val h,fun _ _=>rfl,id⟩
   | row h=>exact⟨γ,_,hI,.row h,fun _ _=>rfl,id⟩,fun l n t0 cs get γ hI hf h=>⟨γ,t0,hI,h,fun _ _=>rfl,id⟩⟩
 | .pair x y=>⟨fun v n t0 cs get γ hI hf h=>⟨γ,t0,hI,h,fun _ _=>rfl,id⟩,fun l n t0 cs get γ hI hf h=>by
   cases h with
   | nil=>exact⟨γ,_,hI,.nil,fun _ _=>rfl,id⟩
   | cons hv hk =>
    rename_i ta tb v l c d
    have l1:=(md x).1 v n
    have l2:=(md y).2 l (aP x v n).2.2
    have hf' : ∀ r,n≤r→r < (aP.go y l (aP x v n).2.2).2.2→γ r=none:=hf
    obtain⟨γ1,t1,h1,h2,h3,q1⟩:=(me x).1 v n ta c get γ hI (fun r hr1 hr2=>hf' r hr1 (by omega)) hv
    have hext : ∀ r g,γ r=some g→γ1 r=some g:=fun r g hg=>by
     rw[h3 r (fun hr=>by rw[hf' r hr.1 (by omega)] at hg; cases hg)]
     exact hg
    obtain⟨γ2,t2,h4,h5,h6,q2⟩:=(me y).2 l (aP x v n).2.2 tb d _ γ1 h1 (fun r hr1 hr2=>by
     rw[h3 r (fun hr=>by omega)]
     exact hf' r (by omega) hr2) (zv (fun _ _ _ h=>h) hext hk)
    have hext2 : ∀ r g,γ1 r=some g→γ2 r=some g:=fun r g hg=>by
     by_cases hr:(aP x v n).2.2≤r∧r < (aP.go y l (aP x v n).2.2).2.2
     ·rw[h3 r (fun hr'=>by omega),hf' r (by omega) hr.2] at hg
      cases hg
     ·rw[h6 r hr]
      exact hg
    refine⟨γ2,.pair t1 t2,?_,.cons (q6 (fun _ _ _ h=>h) hext2 h2) h5,fun r hr => ?_,fun e=>by cases e; rw[q1 rfl,q2 rfl]⟩
    ·show bm w0 X Pr0 sl (bq get ((aP x v n).2.1++(aP.go y l (aP x v n).2.2).2.1)) γ2 Pr a w
     rw[db]
     exact h4
    ·have hr' : ¬(n≤r∧r < (aP.go y l (aP x v n).2.2).2.2):=hr
     rw[h6 r (fun h=>hr' ⟨by omega,h.2⟩),h3 r (fun h=>hr' ⟨h.1,by omega⟩)]⟩
theorem rR : ∀(t:Ty),(∀(v:SV) (n:Nat),∀ p∈(aP t v n).2.1,n≤p.1∧p.1 < (aP t v n).2.2)∧(∀(l:List SV) (n:Nat),∀ p∈(aP.go t l n).2.1,n≤p.1∧p.1 < (aP.go t l n).2.2)
 | .int _=>⟨fun v n p hp=>by simp[aP] at hp,fun l n p hp=>by simp[aP.go] at hp⟩
 | .bool=>⟨fun v n p hp=>by simp[aP] at hp,fun l n p hp=>by simp[aP.go] at hp⟩
 | .str=>⟨fun v n p hp=>by simp[aP] at hp,fun l n p hp=>by simp[aP.go] at hp⟩
 | .err=>⟨fun v n p hp=>by simp[aP] at hp,fun l n p hp=>by simp[aP.go] at hp⟩
 | .fn=>⟨fun v n p hp=>by simp[aP] at hp,fun l n p hp=>by simp[aP.go] at hp⟩
 | .pt=>⟨fun v n p hp=>by simp[aP] at hp,fun l n p hp=>by simp[aP.go] at hp⟩
 | .unit=>⟨fun v n p hp=>by simp[aP] at hp,fun l n p hp=>by simp[aP.go] at hp⟩
 | .slice _ _=>⟨fun v n p hp=>by
   cases v <;> simp only[aP,List.not_mem_nil,List.mem_singleton] at hp ⊢
   subst hp
   exact⟨Nat.le_refl _,Nat.lt_succ_self _⟩,fun l n p hp=>by simp[aP.go] at hp⟩
 | .agg t=>⟨fun v n p hp=>by
   cases v <;> first | (simp only[aP,List.not_mem_nil] at hp; done) | skip
   exact(rR t).2 _ n p hp,fun l n p hp=>by simp[aP.go] at hp⟩
 | .pair x y=>⟨fun v n p hp=>by simp[aP] at hp,fun l n p hp=>by
   cases l with
   | nil=>simp[aP.go] at hp
   | cons v l =>
    have hp':p∈(aP x v n).2.1++(aP.go y l (aP x v n).2.2).2.1:=hp
    have l1:=(md x).1 v n
    have l2:=(md y).2 l (aP x v n).2.2
    show n≤p.1∧p.1 < (aP.go y l (aP x v n).2.2).2.2
    rcases List.mem_append.1 hp' with hp | hp
    ·have:=(rR x).1 v n p hp
     omega
    ·have:=(rR y).2 l _ p hp
     omega⟩
theorem Ll : ∀ {u:Up} {get:Nat→Option aY} {r:Nat},(∀ p∈u,p.1≠r)→bq get u r=get r
 | [],_,_,_=>rfl
 | (k,x) :: u,get,r,h=>by
  show bq (fun s=>if s=k then x else get s) u r=get r
  rw[Ll (fun p hp=>h p (List.mem_cons_of_mem _ hp))]
  exact if_neg (fun e=>h (k,x) (by simp) e.symm)
theorem Lm (t:Ty):fC t []=some (0,t):=by cases t <;> rfl
theorem Vb (H:fH P E call w0 X Pr0 sl get γ Pr a w res r0 o vs v u) {T:TypeId} (hop:o.op = .alloc T):gD P w0 X Pr0 sl get γ Pr a w r0 o v u:=by
 obtain⟨hE,hI,hk,hfr,hv,hc⟩:=H
 unfold cK at hc
 simp only[hop] at hc
 have hc':(match dq E.ty T with
  | some t=>match aP t (km t) (r0+1) with
   | (c,u,m)=>match Nat.ble m (r0+64) with | true=>cI (.ptr r0 t []) (u++[(r0,some (.box t c))]) | false=>none
  | none=>none)=some (v,u):=by
  rcases vs with _ | ⟨v1,_ | ⟨v2,_ | ⟨v3,vs⟩⟩⟩ <;> exact hc
 split at hc'
 ·rename_i t hT
  split at hc'
  rename_i c u' m hgr
  split at hc'
  ·rename_i hm
   cases hc'
   have hm:=Nat.le_of_ble_eq_true hm
   have e1:(aP t (km t) (r0+1)).1=c:=by rw[hgr]
   have e2:(aP t (km t) (r0+1)).2.1=u':=by rw[hgr]
   have e3:(aP t (km t) (r0+1)).2.2=m:=by rw[hgr]
   obtain⟨i,hi,hs,z,hz,hzc⟩:=(b9 hE hT).2.info
   obtain⟨γ',t',hI',hrt,hγ,hty⟩:=(me (w0:=w0) (X:=X) (Pr0:=Pr0) (sl:=sl) (Pr:=Pr) (a:=a) (w:=w) t).1 (km t) (r0+1) t (zc t) get γ hI (fun r h1 h2=>hfr r (by omega) (by omega)) ((xS t).1 (b9 hE hT).2.wf)
   have:=hty rfl
   subst this
   rw[e1] at hrt
   rw[e2] at hI'
   have h0:γ' r0=none:=by
    rw[hγ r0 (fun h=>by omega)]
    exact hfr r0 (Nat.le_refl _) (by omega)
   have hbox:=hI'.newBox h0 (c:=c) (t:=t') (cs:=z.cells) (T:=T) (b9 hE hT).2.wf (by rw[hzc]; exact hrt)
   refine jS (u := .pointer (some ⟨w.heap.size,0,none⟩)) (get':=bq get (u'++[(r0,some (.box t' c))])) (by rw[db]; exact hbox) ?_ (.ptr bX (Lm t')) (fun r hr=>(mc r hr).trans (hγ r (fun h=>hr ⟨by omega,by omega⟩)))
   simp only[execOp,hop,Instr.alloc,zeroValue,typeInfo,Sem.run_bind,run_program,hi,Sem.run_pure,Result.andThen_ok,hz,newVar,newRow,run_newObj_alloc]
  ·cases hc'
 ·cases hc'
theorem X6 (H:fH P E call w0 X Pr0 sl get γ Pr a w res r0 o vs v u) {T:TypeId} {i:Operand} (hop:o.op = .box T i):gD P w0 X Pr0 sl get γ Pr a w r0 o v u:=by
 obtain⟨hE,hI,hk,hfr,hv,hc⟩:=H
 rw[hop] at hv
 obtain⟨p,rfl,hp⟩:=jp hv
 unfold cK at hc
 simp only[hop] at hc
 split at hc
 ·rename_i t hT
  split at hc
  ·rename_i hf
   generalize hgr:aP t (hZ p) (r0+1)=gg at hc
   obtain⟨c,u',m⟩:=gg
   simp only at hc
   split at hc
   ·rename_i hm
    cases hc
    have hm:=Nat.le_of_ble_eq_true hm
    have e1:(aP t (hZ p) (r0+1)).1=c:=by rw[hgr]
    have e2:(aP t (hZ p) (r0+1)).2.1=u':=by rw[hgr]
    have e3:(aP t (hZ p) (r0+1)).2.2=m:=by rw[hgr]
    obtain⟨cs,hx,hrt⟩:=CZ (hI.tys hk) hp hf
    have hwf:=(b9 hE hT).2.wf
    have hcells:=EQ hI.gs hrt (b9 hE hT).2.one
    have hsp:RT (Ln Pr w) γ t (hZ p) cs:=vZ hrt (fun u hu=>by subst hu; exact xR hwf)
    obtain⟨γ',t',hI',hrt',hγ,hty⟩:=(me (w0:=w0) (X:=X) (Pr0:=Pr0) (sl:=sl) (Pr:=Pr) (a:=a) (w:=w) t).1 (hZ p) (r0+1) t cs get γ hI (fun r h1 h2=>hfr r (by omega) (by omega)) hsp
    have:=hty rfl
    subst this
    rw[e1] at hrt'
    rw[e2] at hI'
    have h0:γ' r0=none:=by
     rw[hγ r0 (fun h=>by omega)]
     exact hfr r0 (Nat.le_refl _) (by omega)
    have hbox:=hI'.newBox h0 (c:=c) (t:=t') (cs:=cs.toArray) (T:=T) hwf (by simpa using hrt')
    refine jS (u := .pointer (some ⟨w.heap.size,0,none⟩)) (get':=bq get (u'++[(r0,some (.box t' c))])) (by rw[db]; exact hbox) ?_ (.ptr bX (Lm t')) (fun r hr=>(mc r hr).trans (hγ r (fun h=>hr ⟨by omega,by omega⟩)))
    simp only[execOp,hop,Instr.box,hx,Sem.run_bind,Sem.run_pure,Result.andThen_ok,newVar,newRow,run_newObj_alloc,hcells]
   ·cases hc
  ·cases hc
 ·cases hc
end
end Go.Proofs.YtnodjiikdgmeaaaGreatDoor.Abs
namespace Go.Proofs.YtnodjiikdgmeaaaGreatDoor.Abs
open Go Go.RowKit
section
variable {P:Program} {E:cO} {call:(I:an)→List SV→aH→Option (I.sh.den×I.bx.den)} {w0:World} {X:Nat→Prop} {Pr0:Nat→Nat→Prop} {sl:List SV} {get:Nat→Option aY} {γ:Nat→Option G} {Pr:Nat→Nat→Prop}
 {a:Act} {w:World} {res:aH} {r0:Nat} {o:Oper} {vs:List SV} {v:SV} {u:Up}
inductive C0 {α β:Type} (R:α→β→Prop):List α→List β→Prop
 | nil:C0 R [] []
 | cons {x:α} {y:β} {l:List α} {m:List β} (h:R x y) (k:C0 R l m):C0 R (x :: l) (y :: m)
theorem Lo (H:fH P E call w0 X Pr0 sl get γ Pr a w res r0 o vs v u) {i:Operand} (hop:o.op = .move i∨o.op = .assign i):gD P w0 X Pr0 sl get γ Pr a w r0 o v u:=by
 obtain⟨hE,hI,hk,hfr,hv,hc⟩:=H
 have hv':ct (Ln Pr w) γ vs [a.eval i]:=by
  rcases hop with hop | hop <;> (rw[hop] at hv; exact hv)
 obtain⟨p,rfl,hp⟩:=jp hv'
 have ho:(execOp a.eval o).run P w = .ok (.value (a.eval i)) w:=by
  rcases hop with hop | hop <;> simp only[execOp,hop,Sem.run_pure]
 have hc':(match (generalizing:=false) p,dq E.ty o.type with
   | .nilS,some (.slice e t)=>cI (.row r0) [(r0,some (.row e t [] false))]
   | .strct l,some (.agg t)=>match aP (.agg t) (.strct l) r0 with
    | (v',u,m)=>match Nat.ble m (r0+64) with | true=>cI v' u | false=>none
   | _,_=>cI p [])=some (v,u):=by
  unfold cK at hc
  rcases hop with hop | hop <;> (simp only[hop] at hc; exact hc)
 split at hc'
 ·cases hc'
  have h0:γ r0=none:=hfr r0 (Nat.le_refl _) (by omega)
  generalize hx:a.eval i=x at *
  cases hp with
  | nilS=>exact jS (hI.nilRow h0) ho (.row bX) mc
 ·rename_i l t hT
  split at hc'
  rename_i v' u' m hgr
  split at hc'
  ·rename_i hm
   cases hc'
   have hm:=Nat.le_of_ble_eq_true hm
   generalize hx:a.eval i=x at *
   cases hp with
   | strct hl =>
    have e1:(aP (.agg t) (.strct l) r0).1=v:=by rw[hgr]
    have e2:(aP (.agg t) (.strct l) r0).2.1=u:=by rw[hgr]
    have e3:(aP (.agg t) (.strct l) r0).2.2=m:=by rw[hgr]
    obtain⟨γ',t',hI',hrt,hγ,_⟩:=(me (.agg t)).1 (.strct l) r0 _ _ get γ hI (fun r h1 h2=>hfr r h1 (by omega)) (.strct hl)
    rw[e2] at hI'
    refine jS hI' ho ?_ (fun r hr=>hγ r (fun h=>hr ⟨h.1,by omega⟩))
    rw[←e1]
    exact X5 hrt
  ·cases hc'
 ·cases hc'
  exact oO hI ho hp
theorem HQ (hgs : ∀ r e t v,γ r=some (.row e t v) → ∃ A n c,v = .slice A n c) {L:Lk} (hr:pH γ res) {fs:List Field} {t:Ty} (hF:O3 P fs t 0) (ht:d9 true t=true) {dX:Nat→Option (Nat×Nat)}
  (hpl : ∀ f fl s o,fs[f]? = some fl→dv t f=some (o,s)→dX f=some (o,s.sz)) :
  ∀(ps:List (Nat×SV)) (qs:List (Nat×Value)) (l l':List SV) (cs:Array Value),C0 (fun p q=>p.1=q.1∧RV L γ p.2 q.2) ps qs→gC L γ t l cs.toList→nY res (l8 t) ps l=some l' →
   ∃ cs',Instr.fill dX cs qs=some cs'∧gC L γ t l' cs'.toList
 | [],[],l,l',cs,_,hl,h=>by
  cases h
  exact⟨cs,rfl,hl⟩
 | (f,v) :: ps,(g,u) :: qs,l,l',cs,.cons hpq hps,hl,h=>by
  obtain⟨rfl,hv⟩:=hpq
  simp only[nY] at h
  split at h
  ·rename_i s hs
   split at h
   ·rename_i hf
    obtain⟨c,rfl,hc⟩:=CZ hr hv hf
    have hoff : ∀(t:Ty) (f:Nat) (s:Ty),(l8 t)[f]? = some s → ∃ o,dv t f=some (o,s):=by
     intro t
     induction t with
     | pair a b _ ih =>
      intro f s hs
      cases f with
      | zero =>
       simp[l8] at hs
       exact⟨0,by simp[dv,hs]⟩
      | succ f =>
       obtain⟨o,ho⟩:=ih f s (by simpa[l8] using hs)
       exact⟨a.sz+o,by simp[dv,ho]⟩
     | _=>intro f s hs; simp[l8] at hs
    obtain⟨o,ho⟩:=hoff t f s hs
    obtain⟨fl,hfl,_,_,hi⟩:=xP hF ho
    have hone:s.sz=1 ∨ ∃ u,s = .agg u:=hi.one
    have hcells:=EQ hgs hc hone
    have hlen:c.length=s.sz:=iM hc
    have hadd:=EO ho
    have hcs:cs.size=t.sz:=by
     rw[←Array.length_toList]
     exact HL hl
    have hput:=HO hl ho hc
    have hfold:((mk s c).cells.zipIdx.foldl (fun cs (c,j)=>cs.setIfInBounds (o+j) c) cs)=(bc cs.toList o c).toArray:=by
     rw[hcells]
     exact fold_splice c cs o (by omega)
    obtain⟨cs',h1,h2⟩:=HQ hgs hr hF ht hpl ps qs _ l' (bc cs.toList o c).toArray hps (by simpa using hput) h
    refine⟨cs',?_,h2⟩
    rw[Instr.fill,hpl f fl s o hfl ho]
    simp only
    rw[if_neg (by rw[hcells]; simp[hlen]; omega)]
    rw[hfold]
    exact h1
   ·cases h
  ·cases h
where
 fold_splice (c:List Value) (cs:Array Value) (o:Nat) (h:o+c.length≤cs.size):(c.toArray.zipIdx.foldl (fun cs (c,j)=>cs.setIfInBounds (o+j) c) cs)=(bc cs.toList o c).toArray:=by
  have key : ∀(c:List Value) (k:Nat) (cs:Array Value),o+k+c.length≤cs.size→((c.zipIdx k).foldl (fun(cs:Array Value) (p:Value×Nat)=>cs.setIfInBounds (o+p.2) p.1) cs)=(bc cs.toList (o+k) c).toArray:=by
   intro c
   induction c with
   | nil =>
    intro k cs _
    simp[bc]
   | cons x c ih =>
    intro k cs h
    rw[List.length_cons] at h
    rw[List.zipIdx_cons,List.foldl_cons,ih (k+1) _ (by simp; omega)]
    apply Array.toList_inj.1
    apply List.ext_getElem?
    intro j
    rw[m6 (by simp; omega),m6 (by simp; omega)]
    simp only[Array.toList_setIfInBounds,List.getElem?_set,List.length_cons,Array.length_toList]
    by_cases h1:o+(k+1)≤j∧j < o+(k+1)+c.length
    ·rw[if_pos h1,if_pos (by omega)]
     rw[show j - (o+k)=(j - (o+(k+1)))+1 by omega,List.getElem?_cons_succ]
    ·rw[if_neg h1]
     by_cases h2:o+k=j
     ·subst h2
      rw[if_pos rfl,if_pos (by omega),if_pos (by omega)]
      simp
     ·rw[if_neg h2,if_neg (by omega)]
  have:=key c 0 cs (by omega)
  rw[Nat.add_zero] at this
  rw[←this,←Array.foldl_toList]
  congr 1
  simp
theorem xk {L:Lk} : ∀ {ks:List Nat} {vs:List SV} {us:List Value},ct L γ vs us→C0 (fun(p:Nat×SV) (q:Nat×Value)=>p.1=q.1∧RV L γ p.2 q.2) (ks.zip vs) (ks.zip us)
 | [],_,_,_=>by simp only[List.zip_nil_left]; exact .nil
 | k :: ks,_,_,.nil=>by simp only[List.zip_nil_right]; exact .nil
 | k :: ks,_,_,.cons h hs=>by
  simp only[List.zip_cons_cons]
  exact .cons ⟨rfl,h⟩ (xk hs)
theorem Pb (l:List (Nat×Operand)) (f:Operand→Value):(l.map (·.1)).zip ((l.map (·.2)).map f)=l.map fun p=>(p.1,f p.2):=by
 induction l with
 | nil=>rfl
 | cons p l ih =>
  simp only[List.map_cons,List.zip_cons_cons,ih]
theorem Vc (H:fH P E call w0 X Pr0 sl get γ Pr a w res r0 o vs v u) {T:TypeId} {ps:Array (Nat×Operand)} (hop:o.op = .build T ps):gD P w0 X Pr0 sl get γ Pr a w r0 o v u:=by
 obtain⟨hE,hI,hk,hfr,hv,hc⟩:=H
 rw[hop] at hv
 unfold cK at hc
 simp only[hop] at hc
 have hc':(match dq E.ty T with
  | some (.agg t)=>match km (.agg t) with
   | .strct l=>match nY res (l8 t) ((ps.toList.map (·.1)).zip vs) l with
    | some l=>match xM t l with | some v=>cI v [] | none=>none
    | none=>none
   | _=>none
  | _=>none)=some (v,u):=by
  rcases vs with _ | ⟨v1,_ | ⟨v2,_ | ⟨v3,vs⟩⟩⟩ <;> exact hc
 split at hc'
 ·rename_i t hT
  obtain⟨hU,hi⟩:=b9 hE hT
  split at hc'
  ·rename_i l hl
   split at hc'
   ·rename_i l' hb
    split at hc'
    ·rename_i v' hcl
     cases hc'
     obtain⟨fs,hfs,hF⟩:=hU
     obtain⟨i,hi1,hi2,z,hz,hzc⟩:=hi.info
     have hl':l=km.go t:=by
      have:SV.strct (km.go t)=SV.strct l:=hl
      cases this
      rfl
     have hd:gC (Ln Pr w) γ t l z.cells.toList:=by
      rw[hzc,hl']
      exact(xS t).2 hi.wf
     have hplace : ∀ f fl s o,fs.toList[f]? = some fl→dv t f=some (o,s)→(fs.map fun f=>(f.offset,(P.info? f.type).elim 0 (·.size)))[f]? = some (o,s.sz):=by
      intro f fl s o h1 h2
      obtain⟨fl',h3,h4,_,h5⟩:=xP hF h2
      rw[h1] at h3
      cases h3
      obtain⟨j,hj1,hj2,_⟩:=h5.info
      simp only[Array.getElem?_map]
      rw[←Array.getElem?_toList,h1]
      simp[h4,hj1,hj2]
     have hf2:=xk (ks:=ps.toList.map (·.1)) (show ct (Ln Pr w) γ vs ((ps.toList.map (·.2)).map a.eval) from hv)
     rw[Pb] at hf2
     obtain⟨cs',h1,h2⟩:=HQ (P:=P) hI.gs (hI.tys hk) hF hi.wf hplace _ _ l l' z.cells hf2 hd hb
     have hfields : ∀(l:List Field) (t:Ty) (o:Nat),O3 P l t o→(l.mapM fun f=>(do pure (f.offset,←sizeOf f.type):Sem (Nat×Nat))).run P w = .ok (l.map fun f=>(f.offset,(P.info? f.type).elim 0 (·.size))) w:=by
      intro l
      induction l with
      | nil=>intro t o _; simp
      | cons f l ih =>
       intro t o h
       cases t with
       | pair a b =>
        obtain⟨j,hj1,hj2,_⟩:=h.2.2.2.1.info
        simp only[List.mapM_cons,Sem.run_bind,h.2.2.2.1.sizeOf,Result.andThen_ok,Sem.run_pure,ih b _ h.2.2.2.2,List.map_cons,hj1,Option.elim,hj2]
       | _=>exact h.elim
     refine bd (u := .agg cs') (s:=Instr.build T (ps.map fun(i,x)=>(i,a.eval x))) hI (by simp only[execOp,hop]) ?_ (FW h2 hcl).1
     simp only[Instr.build,zeroValue,typeInfo,Sem.run_bind,run_program,hi1,Sem.run_pure,Result.andThen_ok,hz,run_underlying hfs]
     rw[Array.mapM_eq_mapM_toList]
     simp only[Sem.run_bind,Sem.run_map,hfields _ _ _ hF]
     have e1:(List.map (fun f=>(f.offset,(P.info? f.type).elim 0 (·.size))) fs.toList).toArray=fs.map fun f=>(f.offset,(P.info? f.type).elim 0 (·.size)):=by
      apply Array.toList_inj.1
      simp
     simp only[Result.andThen_ok,e1,Array.toList_map]
     rw[h1]
     rfl
    ·cases hc'
   ·cases hc'
  ·cases hc'
 ·cases hc'
theorem jT (hI:bm w0 X Pr0 sl get γ Pr a w) (hk : ∀ r x,az res r=some x→get r=some x) (rows:List Nat) :
  ∃ Pr',bm w0 X Pr0 sl (bq get (cd res rows)) γ Pr' a w∧(∀ b o,Pr b o→Pr' b o)∧iR (Ln Pr' w) γ res (fun r=>r∈rows)∧(∀ r,r ∉ rows→bq get (cd res rows) r=get r) ∧
   (∀ r e t xs fr,r∈rows→az res r=some (.row e t xs fr)→bq get (cd res rows) r=some (.row e t xs true))∧(∀ r,(∀ e t xs fr,get r≠some (.row e t xs fr))→bq get (cd res rows) r=get r):=by
 obtain⟨Pr',hI',hP,_,h1,h2,h3,h4⟩:=bm.freeze_ok res rows (fun r x h=>⟨x,hk r x h,.inl rfl⟩) hI
 refine⟨Pr',hI',hP,?_,h4,h2,h1⟩
 refine YX hI' h2 ?_
 intro r e t xs h
 rw[h1 r (fun e' t' xs' fr' hh=>by rw[hk r _ h] at hh; cases hh)]
 exact hk r _ h
theorem mf {L:Lk} {e:TypeId} {t:Ty} {xs:List t.den} {cs:List Value} (h:RK L (.slice e t) xs cs) : ∃ A cap,cs=[.slice A xs.length cap]∧RK L (.slice e t) xs [.slice A xs.length cap]:=by
 obtain⟨A,cap,rfl,h1,h2⟩:=h
 exact⟨A,cap,rfl,A,cap,rfl,h1,h2⟩
theorem X7 {L:Lk} {e:TypeId} {t:Ty} {xs:List t.den} {A:Option Addr} {cap l h:Nat} (hr:RK L (.slice e t) xs [.slice A xs.length cap]) (h1:l≤h) (h2:h≤xs.length) :
  RK L (.slice e t) ((xs.take h).drop l) [sliced A l h cap t.sz]:=by
 obtain⟨A',cap',he,hc,hA⟩:=hr
 cases he
 have hlen:((xs.take h).drop l).length=h - l:=by
  rw[List.length_drop,List.length_take]
  omega
 refine⟨_,cap - l,by unfold sliced; rw[hlen],by rw[hlen]; omega,fun hne => ?_⟩
 have hlt:l < h:=by
  rcases Nat.lt_or_ge l h with h' | h'
  ·exact h'
  ·exact absurd (List.eq_nil_of_length_eq_zero (by rw[hlen]; omega)) hne
 obtain⟨b,o,rfl,hh⟩:=hA (by intro hx; subst hx; simp at h2; omega)
 refine⟨b,o+l*t.sz,?_,fun i hi => ?_⟩
 ·rw[if_neg (by omega)]
  simp only[Option.map_some,iA]
 ·rw[hlen] at hi
  obtain⟨c,h3,h4⟩:=hh (l+i) (by omega)
  refine⟨c,?_,fun j v hj => ?_⟩
  ·rw[List.getElem_drop,List.getElem_take]
   exact h3
  ·have:=h4 j v hj
   rwa[Nat.add_mul,←Nat.add_assoc] at this
theorem zA {T e:TypeId} {t:Ty} {A:Option Addr} {n cap:Nat} {lo hi:Option Int} {kl kh:IntKind} (hU:mY P T (.slice e t)) (hn:n≤cap) (h1:0≤lo.getD 0) (h2:lo.getD 0≤hi.getD n) (h3:hi.getD n≤n) :
  (Instr.sliceAt T (.slice A n cap) (lo.map (.int kl)) (hi.map (.int kh)) none).run P w = .ok (sliced A (lo.getD 0).toNat (hi.getD n).toNat cap t.sz) w:=by
 obtain⟨hT,hei,_⟩:=hU
 have hel:P.elem T=e:=by simp[Program.elem,hT]
 have hT':P.underlying T=some (.slice (P.elem T)):=by rw[hel]; exact hT
 rw[run_sliceAt_slice _ _ _ _ _ _ hT']
 cases lo <;> cases hi <;> simp only[Option.map_none,Option.map_some,Option.getD_none,Option.getD_some] at h1 h2 h3 ⊢
 ·rw[run_slice_all _ _ _ _ _ hT',hel,hei.sizeOf]
  rfl
 ·rw[run_slice_h _ _ _ _ _ hT' _ _ h2 (by omega),hel,hei.sizeOf]
  rfl
 ·rw[run_slice_l _ _ _ _ _ hT' _ _ h1 h2,hel,hei.sizeOf]
  rfl
 ·rw[run_slice_lh _ _ _ _ _ hT' _ _ _ _ h1 h2 (by omega),hel,hei.sizeOf]
  rfl
theorem Qx {e:TypeId} {t:Ty} {xs:List t.den} {lo hi:Option Int} {u0:Up} (h:lC e t xs lo hi u0 cI=some (v,u)) :
  u=u0∧0≤lo.getD 0∧lo.getD 0≤hi.getD xs.length∧hi.getD xs.length≤xs.length∧v = .val (.slice e t) ((xs.take (hi.getD xs.length).toNat).drop (lo.getD 0).toNat):=by
 unfold lC at h
 split at h
 ·cases h
  refine⟨rfl,Int.le_refl _,Int.natCast_nonneg _,Int.le_refl _,?_⟩
  simp
 ·split at h
  ·split at h
   ·cases h
    refine⟨rfl,Int.le_refl _,by assumption,by assumption,?_⟩
    simp
   ·cases h
  ·cases h
 ·split at h
  ·split at h
   ·cases h
    refine⟨rfl,by assumption,by assumption,Int.le_refl _,?_⟩
    simp
   ·cases h
  ·cases h
 ·split at h
  ·split at h
   ·split at h
    ·split at h
     ·cases h
      exact⟨rfl,by assumption,by assumption,by assumption,rfl⟩
     ·cases h
    ·cases h
   ·cases h
  ·cases h
theorem FX {L:Lk} {T e:TypeId} {t:Ty} {xs:List t.den} {lo hi:Option Int} {kl kh:IntKind} {u0:Up} {x:Value} (hU:mY P T (.slice e t)) (hx:RK L (.slice e t) xs [x]) (h:lC e t xs lo hi u0 cI=some (v,u)) :
  u=u0 ∧ ∃ z,(Instr.sliceAt T x (lo.map (.int kl)) (hi.map (.int kh)) none).run P w = .ok z w∧RV L γ v z:=by
 obtain⟨rfl,h1,h2,h3,rfl⟩:=Qx h
 obtain⟨A,cap,he,hr⟩:=mf hx
 cases he
 refine⟨rfl,_,zA hU (by obtain⟨_,_,he,hc,_⟩:=hr; cases he; exact hc) h1 h2 h3,?_⟩
 exact RV.val (t := .slice e t) (X7 hr (by omega) (by omega))
theorem SS {L:Lk} {T:TypeId} {s:ByteArray} {lo hi:Option Int} {kl kh:IntKind} (hU:P.underlying T=some .string) (h:xK s lo hi cI=some (v,u)) :
  u=[] ∧ ∃ z,(Instr.sliceAt T (.string s) (lo.map (.int kl)) (hi.map (.int kh)) none).run P w = .ok z w∧RV L γ v z:=by
 have key : ∀ l h:Int,0≤l→l≤h→h≤s.size→lo.getD 0=l→hi.getD s.size=h→(Instr.sliceAt T (.string s) (lo.map (.int kl)) (hi.map (.int kh)) none).run P w = .ok (.string (s.extract l.toNat h.toNat)) w:=by
  intro l h h1 h2 h3 h4 h5
  have hb:(Instr.sliceBounds false s.size s.size (lo.map (.int kl)) (hi.map (.int kh)) none).run P w = .ok (l.toNat,h.toNat,s.size) w:=by
   subst h4 h5
   have hh:((hi.getD s.size).toNat:Int)=hi.getD s.size:=Int.toNat_of_nonneg (by omega)
   cases lo <;> cases hi <;> simp only[Option.map_none,Option.map_some,Option.getD_none,Option.getD_some] at h1 h2 h3 hh ⊢ <;>
    simp only[Instr.sliceBounds,Sem.run_bind,Sem.run_pure,Result.andThen_ok]
   ·rfl
   ·rw[run_sliceBound _ _ _ _ _ h2 h3]
    rfl
   ·rw[run_sliceBound _ _ _ _ _ h1 h2]
    rfl
   ·rw[run_sliceBound _ _ _ _ _ (by omega) h3]
    simp only[Result.andThen_ok]
    rw[run_sliceBound _ _ _ _ _ h1 (by omega)]
    rfl
  rw[run_sliceAt_string _ _ _ _ _ _ hU]
  simp[Instr.slice,run_underlying hU,hb]
 unfold xK at h
 split at h
 ·cases h
  refine⟨rfl,_,key 0 s.size (Int.le_refl _) (Int.natCast_nonneg _) (Int.le_refl _) rfl rfl,?_⟩
  have:s.extract (Int.toNat 0) (Int.toNat s.size)=s:=by simp
  rw[this]
  exact q7
 ·split at h
  ·split at h
   ·cases h
    exact⟨rfl,_,key 0 _ (Int.le_refl _) (by assumption) (by assumption) rfl rfl,q7⟩
   ·cases h
  ·cases h
 ·split at h
  ·split at h
   ·cases h
    exact⟨rfl,_,key _ s.size (by assumption) (by assumption) (Int.le_refl _) rfl rfl,q7⟩
   ·cases h
  ·cases h
 ·split at h
  ·split at h
   ·split at h
    ·split at h
     ·cases h
      exact⟨rfl,_,key _ _ (by assumption) (by assumption) (by assumption) rfl rfl,q7⟩
     ·cases h
    ·cases h
   ·cases h
  ·cases h
theorem pJ {α:Type} : ∀ {css:List (List α)} {n k:Nat},(∀ c∈css,c.length=n)→(css.take k).flatten=css.flatten.take (k*n)
 | [],n,k,_=>by simp
 | c :: css,n,0,_=>by simp
 | c :: css,n,k+1,h=>by
  have hc:c.length=n:=h c (by simp)
  rw[List.take_succ_cons,List.flatten_cons,List.flatten_cons,pJ (fun d hd=>h d (List.mem_cons_of_mem _ hd)),List.take_append,Nat.succ_mul,hc]
  rw[List.take_of_length_le (l:=c) (by omega),Nat.add_sub_cancel]
theorem kJ {L:Lk} {x:Option SV} {y:Option Value} {n:Option Int} (h:sr x=some n) (hx : ∀ z,x=some z → ∃ u,y=some u∧RV L γ z u) (hn:x=none→y=none) : ∃ k,y=n.map (.int k):=by
 cases x with
 | none =>
  cases h
  exact⟨.i64,hn rfl⟩
 | some z =>
  obtain⟨u,rfl,hu⟩:=hx z rfl
  simp only[sr,Option.bind_eq_some_iff] at h
  obtain⟨⟨k,m⟩,hz,he⟩:=h
  cases he
  unfold WM at hz
  split at hz
  ·cases hz
   rw[eA hu]
   exact⟨_,rfl⟩
  ·cases hz
theorem Vd (H:fH P E call w0 X Pr0 sl get γ Pr a w res r0 o vs v u) {T:TypeId} {i:Operand} {lo hi mx:Option Operand} (hop:o.op = .slice T i lo hi mx):gD P w0 X Pr0 sl get γ Pr a w r0 o v u:=by
 obtain⟨hE,hI,hk,hfr,hv,hc⟩:=H
 rw[hop] at hv
 cases hv with
 | cons hp hrest =>
  rename_i p is
  have hc':(match (generalizing:=false) dq E.ty T,mx with
   | some ty,none=>match K7 E T o.dst with
    | true=>xL lo hi ty p is res cI
    | false=>match OZ E T o.dst with
     | true=>uu ty (match (generalizing:=false) lo with | some _=>is.head? | none=>none) (match (generalizing:=false) hi with | some _=>is.getLast? | none=>none) p res cI
     | false=>ut ty (match (generalizing:=false) lo with | some _=>is.head? | none=>none) (match (generalizing:=false) hi with | some _=>is.getLast? | none=>none) p res r0 cI
   | _,_=>none)=some (v,u):=by
   unfold cK at hc
   simp only[hop] at hc
   rcases is with _ | ⟨v2,_ | ⟨v3,vs⟩⟩ <;> exact hc
  have ho:execOp a.eval o=(do pure (.value (←Instr.sliceAt T (a.eval i) (lo.map a.eval) (hi.map a.eval) (mx.map a.eval)))):=by simp only[execOp,hop]
  split at hc'
  ·rename_i ty hT
   obtain⟨hU,hi'⟩:=b9 hE hT
   split at hc'
   ·unfold xL at hc'
    split at hc'
    ·rename_i lo0 e0 t0 r
     split at hc'
     ·rename_i e t xs kl l hg
      split at hc'
      ·rename_i hst
       cases hst
       split at hc'
       ·rename_i h0
        split at hc'
        ·rename_i h1
         cases hc'
         have h0 : @LE.le Int _ 0 l:=h0
         have h1 : @LT.lt Int _ l (List.length xs:Int):=h1
         have hrest':ct (Ln Pr w) γ [SV.val (.int kl) l] ([lo0].map a.eval):=by simpa using hrest
         have hq1:a.eval lo0 = .int kl l:=by
          cases hrest' with
          | cons h1 _=>exact eA h1
         obtain⟨v',css,hv',hels,hown,hf⟩:=hI.res r _ (hk r _ hg)
         generalize hx:a.eval i=x at *
         cases hp with
         | row hrow =>
          rw[hv'] at hrow
          cases hrow
          rcases hown.2 with⟨rfl,hn⟩ | ⟨g,cap,cur,rfl,hb,hheap,hnc,hcm,hcs,htake⟩
          ·omega
          ·refine oO hI ?_ (.tail hv' h0 h1 hnc)
           rw[ho]
           have hs:=zA (P:=P) (w:=w) (A:=some ⟨g,0,none⟩) (lo:=some l) (hi:=none) (kl:=kl) (kh := .i64) hU hnc h0 (by simp only[Option.getD_some,Option.getD_none]; omega) (Int.le_refl _)
           have hsl:sliced (some ⟨g,0,none⟩) (Option.getD (some l) 0).toNat (Option.getD (none:Option Int) (xs.length:Int)).toNat cap t0.sz = .slice (some ⟨g,l.toNat*t0.sz,none⟩) (xs.length - l.toNat) (cap - l.toNat):=by
            simp only[Option.getD_none,Option.getD_some,sliced,Int.toNat_natCast]
            rw[if_neg (by omega)]
            simp only[Option.map_some,iA,Nat.zero_add]
           rw[hsl] at hs
           simp only[Option.map_none,Option.map_some,hq1] at hs ⊢
           simp only[Sem.run_bind,hs,Result.andThen_ok,Sem.run_pure]
        ·cases hc'
       ·cases hc'
      ·cases hc'
     ·cases hc'
    ·cases hc'
   obtain⟨p',hpe⟩ : ∃ p',p'=p:=⟨p,rfl⟩
   have hbounds:(∀ n,sr (match lo with | some _=>is.head? | none=>none)=some n → ∃ k,lo.map a.eval=n.map (.int k))∧(∀ n,sr (match hi with | some _=>is.getLast? | none=>none)=some n → ∃ k,hi.map a.eval=n.map (.int k)):=by
    have hrest':ct (Ln Pr w) γ is ((lo.toList++hi.toList).map a.eval):=by simpa using hrest
    cases lo with
    | none=>cases hi with
     | none =>
      cases hrest'
      exact⟨fun n h=>kJ (L:=Ln Pr w) (γ:=γ) h (fun z hz=>by cases hz) (fun _=>rfl),fun n h=>kJ (L:=Ln Pr w) (γ:=γ) h (fun z hz=>by cases hz) (fun _=>rfl)⟩
     | some y =>
      obtain⟨q,rfl,hq⟩:=jp hrest'
      exact⟨fun n h=>kJ (L:=Ln Pr w) (γ:=γ) h (fun z hz=>by cases hz) (fun _=>rfl),fun n h=>kJ (L:=Ln Pr w) (γ:=γ) h (fun z hz=>by cases hz; exact⟨_,rfl,hq⟩) (fun h=>by cases h)⟩
    | some x=>cases hi with
     | none =>
      obtain⟨q,rfl,hq⟩:=jp hrest'
      exact⟨fun n h=>kJ (L:=Ln Pr w) (γ:=γ) h (fun z hz=>by cases hz; exact⟨_,rfl,hq⟩) (fun h=>by cases h),fun n h=>kJ (L:=Ln Pr w) (γ:=γ) h (fun z hz=>by cases hz) (fun _=>rfl)⟩
     | some y =>
      obtain⟨q,q',rfl,hq,hq'⟩:=ra hrest'
      exact⟨fun n h=>kJ (L:=Ln Pr w) (γ:=γ) h (fun z hz=>by cases hz; exact⟨_,rfl,hq⟩) (fun h=>by cases h),fun n h=>kJ (L:=Ln Pr w) (γ:=γ) h (fun z hz=>by cases hz; exact⟨_,rfl,hq'⟩) (fun h=>by cases h)⟩
   split at hc'
   ·unfold uu at hc'
    split at hc'
    ·rename_i l h e t hl hh
     subst hpe
     obtain⟨kl,el⟩:=hbounds.1 _ hl
     obtain⟨kh,eh⟩:=hbounds.2 _ hh
     rw[el,eh] at ho
     split at hc'
     ·rename_i xs hx
      obtain⟨Pr',hI',hP,hR,_⟩:=jT hI hk (dw 9 p')
      obtain⟨cs,hx',hrk⟩:=g7 hR (d':=9) (by omega) (fun r hr=>hr) (ux (fun b o v h=>⟨hP _ _ h.1,h.2⟩) (fun _ _ h=>h) hp) hx
      obtain⟨A,cap,rfl,hrk'⟩:=mf hrk
      rw[hx'] at ho
      obtain⟨rfl,z,h1,h2⟩:=FX (P:=P) (w:=w) (γ:=γ) (kl:=kl) (kh:=kh) hU hrk' hc'
      refine oO hI' ?_ h2
      rw[ho]
      have h1':(Instr.sliceAt T (mk (.slice e t) [.slice A (xs:List t.den).length cap]) (Option.map (Value.int kl) l) (Option.map (Value.int kh) h) (Option.map a.eval none)).run P w = .ok z w:=h1
      simp only[Sem.run_bind,h1',Result.andThen_ok,Sem.run_pure]
     ·cases hc'
    ·cases hc'
   unfold ut at hc'
   split at hc'
   ·rename_i l h s hl hh
    obtain⟨kl,el⟩:=hbounds.1 _ hl
    obtain⟨kh,eh⟩:=hbounds.2 _ hh
    rw[el,eh,fk hp] at ho
    obtain⟨rfl,z,h1,h2⟩:=SS (P:=P) (w:=w) (L:=Ln Pr w) (γ:=γ) (kl:=kl) (kh:=kh) hU hc'
    exact bd hI ho h1 h2
   ·rename_i h e0 t0 r hl hh
    obtain⟨kl,el⟩:=hbounds.1 _ hl
    obtain⟨kh,eh⟩:=hbounds.2 _ hh
    rw[el,eh] at ho
    split at hc'
    ·rename_i e t xs hg
     split at hc'
     ·rename_i hst
      cases hst
      split at hc'
      ·rename_i h0
       split at hc'
       ·rename_i h1
        cases hc'
        obtain⟨v',css,hv',hels,hown,hf⟩:=hI.res r _ (hk r _ hg)
        have h00:γ r0=none:=hfr r0 (Nat.le_refl _) (by omega)
        generalize hx:a.eval i=x at *
        cases hp with
        | row hrow =>
         rw[hv'] at hrow
         cases hrow
         have hh:h.toNat≤xs.length:=by omega
         obtain⟨A,cap,rfl,hcap,hA⟩ : ∃ A cap,v' = .slice A xs.length cap∧xs.length≤cap∧w.ownsRow 0 e0 t0.sz (.slice A h.toNat cap) (xs.take h.toNat).length (css.take h.toNat).flatten:=by
          have hl:(xs.take h.toNat).length=h.toNat:=by rw[List.length_take]; omega
          have hfl:(css.take h.toNat).flatten.length=h.toNat*t0.sz:=by
           rw[pJ hels.lens,List.length_take,hels.flat]
           exact Nat.min_eq_left (Nat.mul_le_mul_right _ hh)
          rcases hown.2 with⟨rfl,hn⟩ | ⟨g,cap,cur,rfl,hb,hheap,hnc,hcm,hcs,htake⟩
          ·refine⟨none,0,by rw[hn],by omega,by rw[hl]; exact hfl,.inl ⟨?_,by omega⟩⟩
           rw[show h.toNat=0 by omega]
          ·refine⟨some ⟨g,0,none⟩,cap,rfl,hnc,by rw[hl]; exact hfl,.inr ⟨g,cap,cur,by rw[hl],hb,hheap,by omega,hcm,hcs,?_⟩⟩
           rw[pJ hels.lens,hl,←htake,List.take_take]
           congr 1
           exact(Nat.min_eq_left (Nat.mul_le_mul_right _ hh)).symm
         have hels':mb (Ln Pr w) t0 (xs.take h.toNat) (css.take h.toNat):=by
          refine⟨by rw[List.length_take,List.length_take,hels.1],fun j hj hj' => ?_⟩
          rw[List.getElem_take,List.getElem_take]
          exact hels.2 j (by rw[List.length_take] at hj; omega) (by rw[List.length_take] at hj'; omega)
         obtain⟨Pr',hI',hP'⟩:=hI.rebind (r0:=r0) (xs':=xs.take h.toNat) (css':=css.take h.toNat) (w':=w) (hk r _ hg) h00 hv' ⟨rfl,rfl,rfl,Nat.le_refl _,fun _ _ _=>rfl⟩ hA hels' (fun h=>by cases h) ⟨_,_,_,rfl⟩ (fun b hb => .inl (by cases A <;> exact hb)) (fun h=>by cases h)
         ·refine jS (u := .slice A h.toNat cap) (γ':=lP γ r0 (.row e0 t0 (.slice A h.toNat cap))) (w':=w) (Pr':=Pr') hI' ?_ (.row bX) mc
          ·rw[ho]
           have hs:=zA (P:=P) (w:=w) (A:=A) (lo:=none) (hi:=some h) (kl:=kl) (kh:=kh) hU hcap (Int.le_refl _) h0 h1
           have hsl:sliced A (Option.getD (none:Option Int) 0).toNat (Option.getD (some h) (xs.length:Int)).toNat cap t0.sz = .slice A h.toNat cap:=by
            simp only[Option.getD_none,Option.getD_some,sliced,Int.toNat_zero,Nat.sub_zero,Nat.zero_mul]
            split
            ·rfl
            ·cases A with
             | none=>rfl
             | some ad =>
              simp only[Option.map_some]
              have:ad.add 0=ad:=by unfold Addr.add; simp
              rw[this]
           rw[hsl] at hs
           simp only[Option.map_none] at hs ⊢
           simp only[Sem.run_bind,hs,Result.andThen_ok,Sem.run_pure]
       ·cases hc'
      ·cases hc'
     ·cases hc'
    ·rename_i e t xs hg
     split at hc'
     ·rename_i hst
      cases hst
      have hres:=hI.res r _ (hk r _ hg)
      obtain⟨v',hv',hrk⟩:=xQ (Pr':=Pr) hres (fun _ _ h=>h) (by
       obtain⟨v',css,hv',he,hown,hf⟩:=hres
       intro b hb
       refine hf rfl b ?_
       simpa[bB,hv'] using hb)
      generalize hx:a.eval i=x at *
      cases hp with
      | row h =>
       rw[hv'] at h
       cases h
       obtain⟨rfl,z,h1,h2⟩:=FX (P:=P) (w:=w) (γ:=γ) (kl:=kl) (kh:=kh) hU hrk hc'
       exact bd hI ho h1 h2
     ·cases hc'
    ·rename_i e t xs hg
     split at hc'
     ·rename_i hst
      cases hst
      obtain⟨v',hv',hrk⟩:=hI.res r _ (hk r _ hg)
      generalize hx:a.eval i=x at *
      cases hp with
      | row h =>
       rw[hv'] at h
       cases h
       obtain⟨rfl,z,h1,h2⟩:=FX (P:=P) (w:=w) (γ:=γ) (kl:=kl) (kh:=kh) hU hrk hc'
       exact bd hI ho h1 h2
     ·cases hc'
    ·cases hc'
   ·rename_i l h e t hl hh hne
    subst hpe
    obtain⟨kl,el⟩:=hbounds.1 _ hl
    obtain⟨kh,eh⟩:=hbounds.2 _ hh
    rw[el,eh] at ho
    split at hc'
    ·rename_i xs hx
     obtain⟨Pr',hI',hP,hR,_⟩:=jT hI hk (dw 9 p')
     obtain⟨cs,hx',hrk⟩:=g7 hR (d':=9) (by omega) (fun r hr=>hr) (ux (fun b o v h=>⟨hP _ _ h.1,h.2⟩) (fun _ _ h=>h) hp) hx
     obtain⟨A,cap,rfl,hrk'⟩:=mf hrk
     rw[hx'] at ho
     obtain⟨rfl,z,h1,h2⟩:=FX (P:=P) (w:=w) (γ:=γ) (kl:=kl) (kh:=kh) hU hrk' hc'
     refine oO hI' ?_ h2
     rw[ho]
     have h1':(Instr.sliceAt T (mk (.slice e t) [.slice A (xs:List t.den).length cap]) (Option.map (Value.int kl) l) (Option.map (Value.int kh) h) (Option.map a.eval none)).run P w = .ok z w:=h1
     simp only[Sem.run_bind,h1',Result.andThen_ok,Sem.run_pure]
    ·cases hc'
   ·cases hc'
  ·cases hc'
end
end Go.Proofs.YtnodjiikdgmeaaaGreatDoor.Abs
