/- A reader of the model's code over plain values: it says what a function computes, with no memory in sight. What it says is shown to hold of the model in the texts behind it. -/
import Derived.Calls
import Derived.KernelRfl
import Derived.Laws.BytesArg
import Derived.Laws.AppendOwn
import Derived.Laws.OwnMore
import Derived.Below
import Derived.Tactics
import Derived.WalkKit
import Derived.WideLaws
import Derived.WalkLawsBesides
import Derived.Laws.BytesString
import Derived.Laws.Small
import Derived.Laws.StructEq
import Derived.Laws.Strings
open Array renaming getElem?_eq_some_iff→V8,getElem?_toList→Y6,length_toList→X4,toList_inj→ab_
open Bool renaming and_eq_true→S8
open ByteArray renaming size→U1
open Go.Result renaming andThen_ok→T6
open Go.Sem renaming run_bind→U5,run_pure→V0
open Go.Value renaming ownBlock→ao_
open Int renaming le_refl→af_,toNat→V1
open List renaming append_assoc→X2,eq_nil_of_length_eq_zero→W8,ext_getElem?→cj_,flatten_cons→ar_,foldl_cons→bm_,getD_eq_getElem?_getD→V9,getElem?_append_left→X8,getElem?_append_right→Z3,getElem?_eq_getElem→T9,getElem?_eq_some_iff→U0,getElem?_take→bz_,getElem_append_left→bn_,getElem_append_right→bl_,getElem_mem→bf_,getElem_of_mem→Z9,getElem_take→df_,length_append→S5,length_cons→T3,length_eq_one_iff→bx_,length_take→Y9,map_cons→Y4,mem_append→W1,mem_cons_of_mem→T8,mem_cons→U7,mem_singleton→U4,range→aq_,replicate→W3,take_append→cq_
open Nat renaming add_assoc→Z8,add_sub_cancel_left→cv_,add_zero→au_,beq→Y3,le_of_ble_eq_true→aw_,le_refl→T7,le_trans→W7,lt_of_lt_of_le→X1,lt_succ_self→cr_,mul_le_mul_right→ae_,succ_mul→cp_,zero_add→Y5
open Option renaming bind_eq_some_iff→S7,bind_some→S1,getD_none→dm_,getD_some→Z6,map_eq_some_iff→Y8,map_some→bc_
open Option.some renaming injEq→U3
open _root_ renaming ByteArray→S0,absurd→V2,decide_eq_true_eq→T0,if_neg→S4,if_pos→S6,if_true→V4,of_decide_eq_true→X7
namespace Go.Proofs.YtfffplonjaigkaaGreatDoor.Abs
set_option linter.unusedVariables false
open Go
def bt (s:S0) (i:Int):Int:=if h:i.toNat < s.size then((s[i.toNat]'h).toNat:Int) else 0
inductive Ty where
 | int (k:IntKind)
 | bool
 | str
 | unit
 | pair (a b:Ty)
 | agg (t:Ty)
 | slice (e:TypeId) (t:Ty)
 | err
 | fn
 | pt
 | bp (T:TypeId)
 deriving DecidableEq
@[reducible] def Ty.den:Ty→Type
 | .int _=>Int
 | .bool=>Bool
 | .str=>S0
 | .unit=>Unit
 | .pair a b=>a.den×b.den
 | .agg t=>t.den
 | .slice _ t=>List t.den
 | .err=>Bool
 | .fn=>Unit
 | .pt=>Unit
 | .bp _=>Unit
def Ty.dflt:(t:Ty)→t.den
 | .int _=>(0:Int)
 | .bool=>false
 | .str=>(⟨#[]⟩:S0)
 | .unit=>()
 | .pair a b=>(a.dflt,b.dflt)
 | .agg t=>t.dflt
 | .slice _ _=>[]
 | .err=>true
 | .fn=>()
 | .pt=>()
 | .bp _=>()
def Ty.sz:Ty→Nat
 | .unit=>0
 | .pair a b=>a.sz+b.sz
 | .agg t=>t.sz
 | _=>1
def ef? {t:Ty} (s:Ty) (x:t.den):Option s.den:=if h:t=s then some (h ▸ x) else none
inductive SV where
 | undef
 | nilS
 | val (t:Ty) (x:t.den)
 | row (r:Nat)
 | ptr (r:Nat) (s:Ty) (path:List Nat)
 | eptr (t:Ty) (x:t.den)
 | rptr (r:Nat) (s:Ty) (i:Int) (path:List Nat)
 | tail (r:Nat) (i:Int)
 | fn (g:Nat) (caps:List SV)
 | tup (l:List SV)
 | strct (l:List SV)
inductive aP where
 | box (t:Ty) (c:SV)
 | row (e:TypeId) (t:Ty) (xs:List t.den) (fr:Bool)
 | old (e:TypeId) (t:Ty) (xs:List t.den)
 | gone (e:TypeId) (t:Ty) (n:Nat)
 | keepF (g:Nat) (caps:List SV)
 | rowP (e:TypeId) (l:List SV)
abbrev aB:=List (Nat×aP)
structure St where
 slots:List SV
 res:aB
 nx:Nat
 n0:Nat
def eW (l:List SV):Nat→SV
 | 0=>match l with | x :: _=>x | [] => .undef
 | n+1=>match l with | _ :: r=>eW r n | [] => .undef
def cH:List SV→Nat→SV→List SV
 | [],_,_=>[]
 | _ :: r,0,v=>v :: r
 | x :: r,n+1,v=>x :: cH r n v
def ay:aB→Nat→Option aP
 | [],_=>none
 | (k,v) :: l,r=>match Y3 k r with | true=>some v | false=>ay l r
def wn:aB→Nat→aB
 | [],_=>[]
 | (k,v) :: l,r=>match Y3 k r with | true=>wn l r | false=>(k,v) :: wn l r
def JU (l:aB) (r:Nat) (v:aP):aB:=(r,v) :: wn l r
def cw:Ty→Nat→Option (Nat×Ty)
 | .pair a _,0=>some (0,a)
 | .pair a b,n+1=>(cw b n).map fun p=>(a.sz+p.1,p.2)
 | _,_=>none
def dj:Ty→List Nat→Option (Nat×Ty)
 | t,[]=>some (0,t)
 | .agg t,f :: p=>(cw t f).bind fun q=>(dj q.2 p).map fun q'=>(q.1+q'.1,q'.2)
 | _,_ :: _=>none
def j9:(t:Ty)→t.den→Nat→Option SV
 | .pair a _,x,0=>some (.val a x.1)
 | .pair _ b,x,n+1=>j9 b x.2 n
 | _,_,_=>none
def fieldsOf:(t:Ty)→t.den→List SV
 | .pair a b,x => .val a x.1 :: fieldsOf b x.2
 | _,_=>[]
def ff:SV→SV
 | .val (.agg t) x => .strct (fieldsOf t x)
 | v=>v
def uc:SV→Nat→Option SV
 | .val (.agg t) x,f=>j9 t x f
 | .strct l,f=>l[f]?
 | _,_=>none
def wo:List Nat→SV→Option SV
 | [],v=>some v
 | f :: p,v=>(uc v f).bind (wo p)
def AD:List Nat→SV→SV→Option SV
 | [],_,u=>some (ff u)
 | f :: p,v,u=>match ff v with
  | .strct l=>(l[f]?).bind fun z=>(AD p z u).bind fun z'=>some (.strct (l.set f z'))
  | _=>none
def AE:Ty→Bool
 | .agg (.pair (.bp _) _)=>true
 | _=>false
def Fi (t:Ty) (p:List Nat) (c:SV):Option SV:=match AE t with | true=>none | false=>wo p c
def JV (t:Ty) (p:List Nat) (c u:SV):Option SV:=match AE t && !p.isEmpty with | true=>none | false=>AD p c u
def kS:List Nat→(t:Ty)→t.den→Option SV
 | [],t,x=>some (.val t x)
 | f :: p,.agg t,x=>match j9 t x f with
  | some (.val s y)=>kS p s y
  | _=>none
 | _ :: _,_,_=>none
def mF:(t:Ty)→t.den→Nat→((s:Ty)→s.den→Option s.den)→Option t.den
 | .pair a _,x,0,g=>(g a x.1).bind fun y=>some (y,x.2)
 | .pair _ b,x,n+1,g=>(mF b x.2 n g).bind fun y=>some (x.1,y)
 | _,_,_,_=>none
def pE:List Nat→(t:Ty)→t.den→((s:Ty)→Option s.den)→Option t.den
 | [],t,_,u=>u t
 | f :: p,.agg t,x,u=>mF t x f fun s y=>pE p s y u
 | _ :: _,_,_,_=>none
def pk (g:(t:Ty)→SV→Option t.den):(t:Ty)→List SV→Option t.den
 | .pair a b,x :: l=>(g a x).bind fun u=>(pk g b l).bind fun v=>some (u,v)
 | .unit,[]=>some ()
 | _,_=>none
def cq (res:aB):Nat→(t:Ty)→SV→Option t.den
 | 0,_,_=>none
 | _+1,t,.val s x=>ef? t x
 | _+1,.slice _ _,.nilS=>some []
 | _+1,t,.row r=>match ay res r with
  | some (.row e s xs _)=>ef? (t := .slice e s) t xs
  | some (.old e s xs)=>ef? (t := .slice e s) t xs
  | _=>none
 | d+1,.agg t,.strct l=>pk (cq res d) t l
 | _,_,_=>none
def cG:Nat→SV→List Nat
 | 0,_=>[]
 | _+1,.row r=>[r]
 | d+1,.strct l=>l.flatMap (cG d)
 | _,_=>[]
inductive Sh where
 | val (t:Ty)
 | row (e:TypeId) (t:Ty) (fr:Bool)
 | unit
 | pair (a b:Sh)
 | strct (s:Sh)
 | ptr (t:Ty)
@[reducible] def Sh.den:Sh→Type
 | .val t=>t.den
 | .row _ t _=>List t.den
 | .unit=>Unit
 | .pair a b=>a.den×b.den
 | .strct s=>s.den
 | .ptr t=>t.den
structure Sa where
 yes:Nat
 no:Nat
 dec:aB→List SV→Option Bool
structure ap where
 g:Nat
 fn:Func
 sh:Sh
 bx:Sh
 own:List Bool
 live:List (Nat×List Nat)
 rb:Bool:=false
 prim:Option (List SV→aB→Option (sh.den×bx.den)):=none
 sub:List (Nat×Sa):=[]
structure ce where
 ty:List (Nat×Ty)
 by_:List (Nat×Nat)
 fns:List (Nat×ap)
 eqs:List (Nat×Ty):=[]
 tails:List (Nat×Nat):=[]
 cuts:List (Nat×Nat):=[]
 sub:List (Nat×Sa):=[]
def cD {α:Type}:List (Nat×α)→Nat→Option α
 | [],_=>none
 | (k,v) :: l,r=>match Y3 k r with | true=>some v | false=>cD l r
abbrev Up:=List (Nat×Option aP)
def sH:aB→Up→aB
 | res,[]=>res
 | res,(r,some v) :: u=>sH (JU res r v) u
 | res,(r,none) :: u=>sH (wn res r) u
def freeze (res:aB) (l:List Nat):Up:=l.filterMap fun r=>match ay res r with
 | some (.row e t xs false)=>some (r,some (.row e t xs true))
 | _=>none
def Fb (e:TypeId) (t:Ty) (xs:List t.den):Bool→Option aP
 | true=>some (.old e t xs)
 | false=>none
def Qp:SV→Bool
 | .val _ _=>true
 | _=>false
def JW:SV→Bool
 | .undef | .nilS | .val _ _ | .row _ | .ptr _ _ _=>true
 | _=>false
def gH:Ty→SV
 | .slice _ _ => .nilS
 | .agg t => .strct (go t)
 | t => .val t t.dflt
where
 go:Ty→List SV
 | .pair a b=>gH a :: go b
 | _=>[]
def eg (res:aB):Nat→Ty→SV→Bool
 | 0,_,_=>false
 | _+1,t,.val s _=>decide (s=t)
 | _+1,.slice _ _,.nilS=>true
 | _+1,t,.row r=>match ay res r with
  | some (.row e s _ _)=>decide (Ty.slice e s=t)
  | some (.old e s _)=>decide (Ty.slice e s=t)
  | _=>false
 | d+1,.agg t,.strct l=>go (eg res d) t l
 | _,_,_=>false
where
 go (g:Ty→SV→Bool):Ty→List SV→Bool
 | .pair a b,x :: l=>g a x && go g b l
 | .unit,[]=>true
 | _,_=>false
def bV:(t:Ty)→t.den→t.den→Bool
 | .int _,x,y=>(x:Int) == y
 | .bool,x,y=>(x:Bool) == y
 | .str,x,y=>(x:S0) == y
 | .unit,_,_=>true
 | .pair a b,x,y=>bV a x.1 y.1 && bV b x.2 y.2
 | .agg t,x,y=>bV t x y
 | .slice _ _,_,_=>false
 | .err,_,_=>false
 | .fn,_,_=>false
 | .pt,_,_=>false
 | .bp _,_,_=>false
def cx:Ty→Bool
 | .pair a b=>cx a && cx b
 | .agg t=>cx t
 | .slice _ _=>false
 | .err=>false
 | .fn=>false
 | .pt=>false
 | .bp _=>false
 | _=>true
def aF:(s:Sh)→s.den→Nat→SV×Up×Nat
 | .val t,x,n=>(.val t x,[],n)
 | .row e t fr,xs,n=>(.row n,[(n,some (.row e t xs fr))],n+1)
 | .unit,_,n=>(.undef,[],n)
 | .strct s,x,n=>let (l,u,m):=go s x n; (.strct l,u,m)
 | .pair _ _,_,n=>(.undef,[],n)
 | .ptr t,x,n=>(.ptr n t [],[(n,some (.box t (ff (.val t x))))],n+1)
where
 go:(s:Sh)→s.den→Nat→List SV×Up×Nat
 | .pair a b,x,n =>
  let (v,u,m):=aF a x.1 n
  let (l,u',m'):=go b x.2 m
  (v :: l,u++u',m')
 | _,_,n=>([],[],n)
def bG (s:Sh) (x:s.den) (n:Nat):List SV×Up×Nat:=aF.go s x n
def ej (res:aB):(s:Sh)→SV→Option s.den
 | .val t,v=>cq res 9 t v
 | .row e t fr,.row r=>match ay res r with
  | some (.row e' s xs fr')=>match (fr == fr') with
   | true=>ef? (t := .slice e' s) (.slice e t) xs
   | false=>none
  | _=>none
 | .strct s,.strct l=>go s l
 | _,_=>none
where
 go:(s:Sh)→List SV→Option s.den
 | .pair a b,v :: l=>(ej res a v).bind fun x=>(go b l).bind fun y=>some (x,y)
 | .unit,[]=>some ()
 | _,_=>none
section
variable {R:Type} (E:ce) (call:(I:ap)→List SV→aB→Option (I.sh.den×I.bx.den))
def wq:Operand→Operand→Bool
 | .tmp a,.tmp b=>Y3 a b
 | .const (.int _ a),.const (.int _ b)=>decide (a=b)
 | _,_=>false
def cP (i:Nat):List Nat→Nat→Option Nat
 | [],_=>none
 | x :: l,n=>match Y3 x i with | true=>some n | false=>cP i l (n+1)
def ud (l:List Nat) (n:Nat):Bool:=match cP n l 0 with | some _=>true | none=>false
def ic (l m:List Nat):Bool:=l.any (ud m)
def NK (o:Option Nat) (j:Nat):Bool:=match o with | some i=>Y3 i j | none=>false
def xW (r:Nat) (l:List Nat):List Nat:=match cP r l 0 with
 | some _=>l
 | none=>l++[r]
def nj:Nat→SV→List Nat→List Nat
 | 0,_,l=>l
 | _+1,.row r,l=>xW r l
 | _+1,.ptr r _ _,l=>xW r l
 | _+1,.rptr r _ _ _,l=>xW r l
 | _+1,.tail r _,l=>xW r l
 | d+1,.fn _ caps,l=>caps.foldl (fun l v=>nj d v l) l
 | d+1,.tup vs,l=>vs.foldl (fun l v=>nj d v l) l
 | d+1,.strct vs,l=>vs.foldl (fun l v=>nj d v l) l
 | _,_,l=>l
def pF (res:aB):Nat→Nat→List Nat→List Nat
 | 0,_,l=>l
 | d+1,j,l=>match l[j]? with
  | none=>l
  | some r=>match ay res r with
   | some (.box _ c)=>pF res d (j+1) (nj 9 c l)
   | some (.keepF _ caps)=>pF res d (j+1) (caps.foldl (fun l v=>nj 1 v l) l)
   | some (.rowP _ caps)=>pF res d (j+1) (caps.foldl (fun l v=>nj 1 v l) l)
   | _=>pF res d (j+1) l
def lG:Nat→List Nat
 | 0=>[]
 | n+1=>lG n++[n]
def iP (res:aB) (vs:List SV) (l:List Nat):List Nat:=pF res 40 0 (vs.foldl (fun l v=>nj 9 v l) l)
def ci (res:aB) (vs:List SV):List Nat:=iP res vs []
def Fj (g:SV→Option SV):List SV→Option (List SV)
 | []=>some []
 | v :: l=>(g v).bind fun v'=>(Fj g l).bind fun l'=>some (v' :: l')
def wt (f:Nat→Option Nat):SV→SV
 | .val t x => .val t x
 | .nilS => .nilS
 | .row r=>match f r with | some j => .row j | none => .undef
 | .ptr r s p=>match f r with | some j => .ptr j s p | none => .undef
 | _ => .undef
def lk (f:Nat→Option Nat):Nat→SV→Option SV
 | 0,_=>none
 | _+1,.val t x=>some (.val t x)
 | _+1,.nilS=>some .nilS
 | _+1,.row r=>match f r with | some j=>some (.row j) | none=>none
 | d+1,.strct l=>match Fj (lk f d) l with | some l'=>some (.strct l') | none=>none
 | _,_=>none
def kj (f:Nat→Option Nat):Nat→SV→SV
 | 0,_ => .undef
 | _+1,.row r=>match f r with | some j => .row j | none => .undef
 | _+1,.ptr r s p=>match f r with | some j => .ptr j s p | none => .undef
 | _+1,.rptr r s i p=>match f r with | some j => .rptr j s i p | none => .undef
 | _+1,.tail r i=>match f r with | some j => .tail j i | none => .undef
 | d+1,.fn g caps => .fn g (caps.map (kj f d))
 | d+1,.tup vs => .tup (vs.map (kj f d))
 | d+1,.strct l=>match Fj (lk f d) l with | some l' => .strct l' | none => .undef
 | _,v=>v
def cj (res:aB) (f:Nat→Option Nat):List Nat→Nat→aB
 | [],_=>[]
 | r :: l,j=>match ay res r,NK (f r) j with
  | some (.box t c),true=>match lk f 9 c with
   | some c'=>(j,.box t c') :: cj res f l (j+1)
   | none=>cj res f l (j+1)
  | some (.keepF g caps),true=>(j,.keepF g (caps.map (wt f))) :: cj res f l (j+1)
  | some (.rowP g caps),true=>(j,.rowP g (caps.map (wt f))) :: cj res f l (j+1)
  | some (.gone _ _ _),true=>cj res f l (j+1)
  | some v,true=>(j,v) :: cj res f l (j+1)
  | _,_=>cj res f l (j+1)
def LA (res:aB) (own:Bool) (t:Option Ty) (v:SV):Option (SV×List Nat):=match v with
 | .val s x=>some (.val s x,[])
 | .ptr r s p=>some (.ptr r s p,[])
 | .eptr s x=>some (.eptr s x,[])
 | .rptr r s i p=>some (.rptr r s i p,[])
 | .fn g caps=>some (.fn g caps,[])
 | .undef=>some (.undef,[])
 | .tup _=>none
 | .tail _ _=>none
 | v=>match own,t with
  | true,_=>some (v,[])
  | false,some t=>(cq res 9 t v).bind fun x=>some (.val t x,cG 9 v)
  | false,none=>none
def pG (res:aB):List (Option Ty)→List Bool→List SV→Option (List SV×List Nat)
 | _,_,[]=>some ([],[])
 | ts,os,v :: l=>(LA res (os.headD false) (ts.headD none) v).bind fun(v',fr)=>(pG res ts.tail os.tail l).bind fun(l',fr')=>some (v' :: l',fr++fr')
def ue:Sh→Option Ty
 | .val t=>some t
 | .row e t _=>some (.slice e t)
 | .strct s=>(go s).map .agg
 | _=>none
where
 go:Sh→Option Ty
 | .pair a b=>(ue a).bind fun t=>(go b).map fun u => .pair t u
 | .unit=>some .unit
 | _=>none
def nk:Sh→List (Option Ty)
 | .pair a b=>ue a :: nk b
 | _=>[]
def bX (rb:Bool):aB→List SV→List (Option Ty)→Option (List (Option aP))
 | [],[],_=>some []
 | [],_ :: _,_=>none
 | (_,.box t _) :: l,vs,ts=>match vs,ts with
  | v :: vs,some s :: ts=>if s=t then(bX rb l vs ts).bind fun u=>some (some (.box t v) :: u) else none
  | _,_=>none
 | (_,.row _ _ _ _) :: l,vs,ts=>match rb with
  | true=>match vs,ts with
   | .row _ :: vs,_ :: ts=>(bX rb l vs ts).bind fun u=>some (none :: u)
   | _,_=>none
  | false=>(bX rb l vs ts).bind fun u=>some (none :: u)
 | _ :: l,vs,ts=>(bX rb l vs ts).bind fun u=>some (none :: u)
def cE (rb:Bool):aB→List SV→List (Nat×Nat)
 | [],_=>[]
 | (_,.box _ _) :: l,_ :: vs=>cE rb l vs
 | (k,.row _ _ _ _) :: l,vs=>match rb with
  | true=>match vs with
   | .row m :: vs=>(m,k) :: cE rb l vs
   | _=>[]
  | false=>cE rb l vs
 | (_,.old _ _ _) :: l,vs=>cE rb l vs
 | (_,.gone _ _ _) :: l,vs=>cE rb l vs
 | (_,.keepF _ _) :: l,vs=>cE rb l vs
 | (_,.rowP _ _) :: l,vs=>cE rb l vs
 | _ :: _,_=>[]
def zs:Up→Nat→Option aP→Option aP
 | [],_,x=>x
 | (k,v) :: l,r,x=>match Y3 k r with | true=>zs l r v | false=>zs l r x
def AF:List Nat→Bool
 | []=>true
 | r :: l => !(ud l r) && AF l
def moves (un:Up) (ids:List Nat):List (Nat×Nat)→Up
 | []=>[]
 | (m,k) :: l=>match zs un m none,ids[k]? with
  | some x,some r=>(m,none) :: (r,some x) :: moves un ids l
  | _,_=>moves un ids l
def AG (rb:Bool):List (Nat×(Nat×aP))→Up
 | []=>[]
 | (r,(_,.row e t xs _)) :: l=>match rb with
  | true=>AG rb l
  | false=>(r,some (.gone e t xs.length)) :: AG rb l
 | _ :: l=>AG rb l
def AH (res:aB):List Nat→Up
 | []=>[]
 | r :: l=>match ay res r with
  | some (.keepF g caps)=>(r,some (.keepF g caps)) :: AH res l
  | _=>AH res l
def Pb:List SV→SV
 | [v]=>v
 | l => .tup l
def cy:Sh→Bool
 | .val t=>cx t
 | .row _ t fr=>cx t && !fr
 | .unit=>true
 | .pair a b=>cy a && cy b
 | .strct s=>cy s
 | .ptr t=>cx t
def eO (g key:Nat) (args:List SV) (res:aB) (r0:Nat) (K:SV→Up→Option R):Option R :=
 match cD E.fns key with
 | none=>none
 | some I=>match Y3 I.g g with
  | false=>none
  | true =>
  match pG res (I.fn.params.toList.map fun T=>cD E.ty T) I.own args with
  | none=>none
  | some (args',fr) =>
   let ids:=ci res args'
   let tab:=cj res (fun r=>cP r ids 0) ids 0
   match Y3 tab.length ids.length,Nat.ble ids.length r0,ic fr ids with
   | true,true,false=>(call I (args'.map (kj (fun r=>cP r ids 0) 9)) tab).bind fun z =>
    match bG I.sh z.1 r0 with
    | (vs,u,n)=>match bG I.bx z.2 n with
     | (bs,u',n')=>match bX I.rb tab bs (nk I.bx),Nat.ble n' (r0+64) && AF ((cE I.rb tab bs).map (·.1)++(cE I.rb tab bs).filterMap fun p=>ids[p.2]?) with
      | some ub,true=>K (Pb vs) ((match cy I.sh && cy I.bx with | true=>[] | false=>freeze res fr)++(ids.zip ub++(u++u'))++moves (u++u') ids (cE I.rb tab bs)++(AG I.rb (ids.zip tab)++AH res ids))
      | _,_=>none
   | _,_,_=>none
def ga (g:Nat) (args:List SV) (res:aB) (r0:Nat) (K:SV→Up→Option R):Option R :=
 match cD E.sub g with
 | none=>eO E call g g args res r0 K
 | some s=>(s.dec res args).bind fun b=>if b=true then eO E call g s.yes args res r0 K else eO E call g s.no args res r0 K
def aK:Ty→SV→Nat→SV×Up×Nat
 | .slice e t,.nilS,n=>(.row n,[(n,some (.row e t [] false))],n+1)
 | .agg t,.strct l,n=>match go t l n with
  | (l',u,m)=>(.strct l',u,m)
 | _,v,n=>(v,[],n)
where
 go:Ty→List SV→Nat→List SV×Up×Nat
 | .pair a b,v :: l,n=>match aK a v n with
  | (v',u,m)=>match go b l m with
   | (l',u',m')=>(v' :: l',u++u',m')
 | _,l,n=>(l,[],n)
def Pc:SV→Option (IntKind×Int)
 | .val (.int k) n=>some (k,n)
 | _=>none
def AI (res:aB) (e:TypeId) (t:Ty) (v:SV):Option (List t.den):=cq res 1 (.slice e t) v
def lH (op:BinOp) (k:IntKind) (a b:Int) (K:SV→Up→Option R):Option R :=
 match op with
 | .add=>K (.val (.int k) (k.wrap (a+b))) []
 | .sub=>K (.val (.int k) (k.wrap (a - b))) []
 | .mul=>K (.val (.int k) (k.wrap (a*b))) []
 | .quo=>if b=0 then none else K (.val (.int k) (k.wrap (a.tdiv b))) []
 | .rem=>if b=0 then none else K (.val (.int k) (a.tmod b)) []
 | .and | .or | .xor | .andNot=>K (.val (.int k) (Go.bits op k a b)) []
 | .eql=>K (.val .bool (a == b)) []
 | .neq=>K (.val .bool (a != b)) []
 | .lss=>K (.val .bool (decide (a < b))) []
 | .leq=>K (.val .bool (decide (a≤b))) []
 | .gtr=>K (.val .bool (decide (a > b))) []
 | .geq=>K (.val .bool (decide (a≥b))) []
 | .shl=>if b < 0 then none else K (.val (.int k) (k.wrap (a*2 ^ min b.toNat k.bits))) []
 | .shr=>if b < 0 then none else K (.val (.int k) (a.fdiv (2 ^ min b.toNat k.bits))) []
def sI (op:BinOp) (a b:S0) (K:SV→Up→Option R):Option R :=
 match op with
 | .add=>if a.size+b.size≤9223372036854775807 then K (.val .str (a++b)) [] else none
 | .eql=>K (.val .bool (a.toList == b.toList)) []
 | .neq=>K (.val .bool (!(a.toList == b.toList))) []
 | .lss=>K (.val .bool (Op.bytesLess a.toList b.toList)) []
 | .leq=>K (.val .bool (Op.bytesLess a.toList b.toList || a.toList == b.toList)) []
 | .gtr=>K (.val .bool (!(Op.bytesLess a.toList b.toList || a.toList == b.toList))) []
 | .geq=>K (.val .bool (!Op.bytesLess a.toList b.toList)) []
 | _=>none
def sJ (op:BinOp) (T:TypeId) (x y:SV) (K:SV→Up→Option R):Option R :=
 match x,y with
 | .val (.int k) a,.val (.int k') b=>match op with
  | .shl | .shr=>lH op k a b K
  | _=>if k=k' then lH op k a b K else none
 | .val .str a,.val .str b=>sI op a b K
 | .val .bool a,.val .bool b=>match op,cD E.ty T with
  | .eql,some .bool=>K (.val .bool (a == b)) []
  | .neq,some .bool=>K (.val .bool (!(a == b))) []
  | _,_=>none
 | x,y=>match cD E.eqs T with
  | some t=>match cq [] 9 t x,cq [] 9 t y,op with
   | some a,some b,.eql=>K (.val .bool (bV t a b)) []
   | some a,some b,.neq=>K (.val .bool (!(bV t a b))) []
   | _,_,_=>none
  | none=>none
def Pd:Operand→Bool
 | .const .nilIface=>true
 | _=>false
def sK (op:BinOp) (T:TypeId) (x:SV) (K:SV→Up→Option R):Option R :=
 match cD E.ty T,x with
 | some .err,.val .err b=>match op with
  | .eql=>K (.val .bool b) []
  | .neq=>K (.val .bool (Bool.not b)) []
  | _=>none
 | _,_=>none
def sL (s:S0) (lo hi:Option Int) (K:SV→Up→Option R):Option R :=
 match lo,hi with
 | none,none=>K (.val .str s) []
 | none,some h=>if 0≤h then(if h≤s.size then K (.val .str (s.extract 0 h.toNat)) [] else none) else none
 | some l,none=>if 0≤l then(if l≤s.size then K (.val .str (s.extract l.toNat s.size)) [] else none) else none
 | some l,some h=>if 0≤h then(if h≤s.size then(if 0≤l then(if l≤h then K (.val .str (s.extract l.toNat h.toNat)) [] else none) else none) else none) else none
def iR (e:TypeId) (t:Ty) (xs:List t.den) (lo hi:Option Int) (u:Up) (K:SV→Up→Option R):Option R :=
 match lo,hi with
 | none,none=>K (.val (.slice e t) xs) u
 | none,some h=>if 0≤h then(if h≤xs.length then K (.val (.slice e t) (xs.take h.toNat)) u else none) else none
 | some l,none=>if 0≤l then(if l≤xs.length then K (.val (.slice e t) (xs.drop l.toNat)) u else none) else none
 | some l,some h=>if 0≤h then(if h≤xs.length then(if 0≤l then(if l≤h then K (.val (.slice e t) ((xs.take h.toNat).drop l.toNat)) u else none) else none) else none) else none
def nQ:Option SV→Option (Option Int)
 | none=>some none
 | some v=>(Pc v).bind fun(_,n)=>some (some n)
def pn (ty:Ty) (lo hi:Option SV) (x:SV) (res:aB) (r0:Nat) (K:SV→Up→Option R):Option R :=
 match nQ lo,nQ hi,ty,x with
 | some l,some h,.str,.val .str s=>sL s l h K
 | some none,some (some h),.slice e0 t0,.row r=>match ay res r with
  | some (.row e t xs false)=>if Ty.slice e t = .slice e0 t0 then(if 0≤h then(if h≤xs.length then K (.row r0) [(r,none),(r0,some (.row e t (xs.take h.toNat) false))] else none) else none) else none
  | some (.row e t xs true)=>if Ty.slice e t = .slice e0 t0 then iR e t xs none (some h) [] K else none
  | some (.old e t xs)=>if Ty.slice e t = .slice e0 t0 then iR e t xs none (some h) [] K else none
  | _=>none
 | some l,some h,.slice e t,v=>match AI res e t v with
  | some xs=>iR e t xs l h (freeze res (cG 9 v)) K
  | none=>none
 | _,_,_,_=>none
def po (ty:Ty) (lo hi:Option SV) (x:SV) (res:aB) (K:SV→Up→Option R):Option R :=
 match nQ lo,nQ hi,ty with
 | some l,some h,.slice e t=>match AI res e t x with
  | some xs=>iR e t xs l h (freeze res (cG 9 x)) K
  | none=>none
 | _,_,_=>none
def IL (E:ce) (T:TypeId):Option Nat→Bool
 | some d=>E.cuts.any fun p=>Y3 p.1 T && Y3 p.2 d
 | none=>false
def Fk (E:ce) (T:TypeId):Option Nat→Bool
 | some d=>E.tails.any fun p=>Y3 p.1 T && Y3 p.2 d
 | none=>false
def sM (lo hi:Option Operand) (ty:Ty) (x:SV) (is:List SV) (res:aB) (K:SV→Up→Option R):Option R :=
 match lo,hi,ty,x with
 | some _,none,.slice e0 t0,.row r=>match ay res r,is with
  | some (.row e t xs false),[.val (.int _) l]=>if Ty.slice e t = .slice e0 t0 then(if 0≤l then(if l < xs.length then K (.tail r l) [] else none) else none) else none
  | _,_=>none
 | _,_,_,_=>none
def re (res:aB) (t:Ty):List (Nat×SV)→List t.den→Option (List t.den)
 | [],l=>some l
 | (i,v) :: ps,l=>match Nat.blt i l.length with
  | true=>(cq res 9 t v).bind fun x=>re res t ps (l.set i x)
  | false=>none
def kk (res:aB):List Ty→List (Nat×SV)→List SV→Option (List SV)
 | _,[],l=>some l
 | ts,(i,v) :: ps,l=>match ts[i]? with
  | some t=>match eg res 9 t v with | true=>kk res ts ps (l.set i v) | false=>none
  | none=>none
def jh:Ty→List Ty
 | .pair a b=>a :: jh b
 | _=>[]
def sN (t:Ty) (l:List SV):Option SV:=match l.all Qp with
 | true=>(pk (cq [] 9) t l).bind fun x=>some (.val (.agg t) x)
 | false=>some (.strct l)
def pp (f:Int→Int→Int) (k:IntKind):List SV→Int→Option Int
 | [],n=>some n
 | .val (.int k') m :: l,n=>if k=k' then pp f k l (f n m) else none
 | _,_=>none
def AJ (argTypes:Array TypeId) (v:SV) (res:aB) (K:SV→Up→Option R):Option R :=
 match argTypes[0]?.bind (cD E.ty),v with
 | some .str,.val .str s=>K (.val (.int .i64) (s.size:Int)) []
 | some (.slice e t),.tail r i=>match ay res r with
  | some (.row e' t' xs false)=>if Ty.slice e' t' = .slice e t then K (.val (.int .i64) ((xs.length:Int) - i)) [] else none
  | _=>none
 | some (.slice e t),v=>match AI res e t v with
  | some xs=>K (.val (.int .i64) (xs.length:Int)) []
  | none=>match v with
   | .row r=>match ay res r with
    | some (.gone e' t' n)=>if Ty.slice e' t' = .slice e t then K (.val (.int .i64) (n:Int)) [] else none
    | some (.rowP e' l)=>if Ty.slice e' .pt = .slice e t then K (.val (.int .i64) (l.length:Int)) [] else none
    | _=>none
   | _=>none
 | _,_=>none
def mG (argTypes:Array TypeId) (s x:SV) (res:aB) (r0:Nat) (K:SV→Up→Option R):Option R :=
 match argTypes.toList,s with
 | [T,T'],.row r=>match cD E.ty T,Y3 T T',ay res r with
  | some (.slice e t),true,some (.row e' t' xs fr)=>match ef? (t := .slice e' t') (.slice e t) xs,cq res 9 (.slice e t) x,ud (cG 9 x) r,cD E.by_ e with
   | some xs,some ys,false,some nb=>if((xs:List t.den).length+(ys:List t.den).length)*nb≤140737488355328 then K (.row r0) (freeze res (cG 9 x)++[(r,Fb e t xs fr),(r0,some (.row e t ((xs:List t.den)++(ys:List t.den)) fr))]) else none
   | _,_,_,_=>none
  | _,_,_=>none
 | _,_=>none
def pH (f:Int→Int→Int) (v:SV) (l:List SV) (K:SV→Up→Option R):Option R :=
 match v with
 | .val (.int k) n=>match pp f k l n with | some m=>K (.val (.int k) m) [] | none=>none
 | _=>none
def sO (argTypes:Array TypeId) (v:SV) (res:aB) (K:SV→Up→Option R):Option R :=
 match argTypes[0]?.bind (cD E.ty),v with
 | some (.slice e t),.tail r i=>match ay res r with
  | some (.row e' t' xs false)=>if Ty.slice e' t' = .slice e t then K .undef [(r,some (.row e' t' (xs.take i.toNat++W3 (xs.length - i.toNat) t'.dflt) false))] else none
  | _=>none
 | _,_=>none
def mH (b:Builtin) (argTypes:Array TypeId) (T:TypeId) (args:List SV) (res:aB) (r0:Nat) (K:SV→Up→Option R):Option R :=
 match b with
 | .len=>match args with | [v]=>AJ E argTypes v res K | _=>none
 | .append=>match args with | [s,x]=>mG E argTypes s x res r0 K | _=>none
 | .min=>match args with | v :: l=>pH (fun x y=>if y < x then y else x) v l K | _=>none
 | .max=>match args with | v :: l=>pH (fun x y=>if x < y then y else x) v l K | _=>none
 | .clear=>match args with | [v]=>sO E argTypes v res K | _=>none
 | _=>none
def pq (T:TypeId) (n:Nat) (ps:Array (Nat×Operand)) (vs:List SV) (res:aB) (r0:Nat) (K:SV→Up→Option R):Option R :=
 match n,vs with
 | 2,[.ptr r s p,.ptr r' s' p']=>match cD E.ty T,ps.toList.map (·.1) with
  | some (.slice e .pt),[0,1]=>K (.row r0) [(r0,some (.rowP e [.ptr r s p,.ptr r' s' p']))]
  | _,_=>none
 | n,vs=>match cD E.ty T with
  | some (.slice e t)=>match re res t ((ps.toList.map (·.1)).zip vs) (W3 n t.dflt),Nat.ble (n*t.sz) 16777216 with
   | some xs,true=>K (.row r0) (freeze res (vs.flatMap (cG 9))++[(r0,some (.row e t xs false))])
   | _,_=>none
  | _=>none
def cf (o:Oper) (args:List SV) (res:aB) (r0:Nat) (K:SV→Up→Option R):Option R :=
 match o.op,args with
 | .move _,[v] | .assign _,[v]=>match v,cD E.ty o.type with
  | .nilS,some (.slice e t)=>K (.row r0) [(r0,some (.row e t [] false))]
  | .strct l,some (.agg t)=>match aK (.agg t) (.strct l) r0 with
   | (v',u,m)=>match Nat.ble m (r0+64) with | true=>K v' u | false=>none
  | _,_=>K v []
 | .pick _ _ _,[c,a,b]=>match c,a,b with
  | .val .bool x,.val .bool y,.val .bool z=>K (.val .bool (if x=true then y else z)) []
  | .val .bool x,a,b=>if x=true then K a [] else K b []
  | _,_,_=>none
 | .alloc T,_=>match cD E.ty T with
  | some t=>match aK t (gH t) (r0+1) with
   | (c,u,m)=>match Nat.ble m (r0+64) with | true=>K (.ptr r0 t []) (u++[(r0,some (.box t c))]) | false=>none
  | none=>none
 | .box T _,[v]=>match cD E.ty T with
  | some t=>match eg res 9 t v with
   | true=>match aK t (ff v) (r0+1) with
    | (c,u,m)=>match Nat.ble m (r0+64) with | true=>K (.ptr r0 t []) (u++[(r0,some (.box t c))]) | false=>none
   | false=>none
  | none=>none
 | .build T ps,vs=>match cD E.ty T with
  | some (.agg t)=>match gH (.agg t) with
   | .strct l=>match kk res (jh t) ((ps.toList.map (·.1)).zip vs) l with
    | some l=>match sN t l with | some v=>K v [] | none=>none
    | none=>none
   | _=>none
  | _=>none
 | .buildSlice T n ps,vs=>pq E T n ps vs res r0 K
 | .load T _,[p]=>match cD E.ty T,p with
  | some t,.ptr r s path=>if s=t then(match ay res r with
   | some (.box bt c)=>match Fi bt path c with
    | some (.strct l)=>match t with
     | .agg t'=>match sN t' l with | some v=>K v [] | none=>none
     | _=>none
    | some v=>K v []
    | none=>none
   | some (.keepF g caps)=>match path,t with
    | [],.fn=>K (.fn g caps) []
    | _,_=>none
   | _=>none) else none
  | some t,.eptr s x=>if s=t then K (.val s x) [] else none
  | some t,.rptr r _ i path=>match ay res r with
   | some (.rowP e l)=>match t,path with
    | .pt,[]=>match l[i.toNat]? with
     | some v=>K v []
     | none=>none
    | _,_=>none
   | some (.row _ u xs _)=>match kS path u (xs.getD i.toNat u.dflt) with
    | some (.val s y)=>if s=t then K (.val s y) [] else none
    | _=>none
   | _=>none
  | _,_=>none
 | .store T _ _,[p,v]=>match cD E.ty T,p with
  | some .fn,.ptr r .fn []=>match ay res r,v with
   | some (.box .fn _),.fn g caps=>match caps.all JW with
    | true=>K .undef [(r,some (.keepF g caps))]
    | false=>none
   | _,_=>none
  | some t,.ptr r s path=>if s=t then(match ay res r with
   | some (.box bt c)=>match eg res 9 t v,aK t v r0 with
    | true,(v',u,m)=>match JV bt path c v',Nat.ble m (r0+64) with
     | some c',true=>K .undef (u++[(r,some (.box bt c'))])
     | _,_=>none
    | false,_=>none
   | _=>none) else none
  | some t,.rptr r _ i path=>match ay res r with
   | some (.row e u xs false)=>match ud (cG 9 v) r,cq res 9 t v with
    | false,some x=>match pE path u (xs.getD i.toNat u.dflt) (fun s=>ef? s x) with
     | some y=>K .undef (freeze res (cG 9 v)++[(r,some (.row e u (xs.set i.toNat y) false))])
     | none=>none
    | _,_=>none
   | _=>none
  | _,_=>none
 | .nilCheck _,[p]=>match p with
  | .ptr _ _ _ | .eptr _ _ | .rptr _ _ _ _=>K p []
  | _=>none
 | .binOp op T _ j _,[x,y]=>match Pd j with
  | true=>sK E op T x K
  | false=>sJ E op T x y K
 | .unOp op _ _,[x]=>match op,x with
  | .neg,.val (.int k) n=>K (.val (.int k) (k.wrap (0 - n))) []
  | .not,.val .bool b=>K (.val .bool (!b)) []
  | .xor,.val (.int k) n=>K (.val (.int k) (Go.bits .xor k (if k.signed then -1 else k.max) n)) []
  | _,_=>none
 | .convert S D _,[x]=>match cD E.ty S,cD E.ty D,x with
  | some _,some (.int k),.val (.int _) n=>K (.val (.int k) (k.wrap n)) []
  | some _,some .str,.val .str s=>K (.val .str s) []
  | some (.slice e (.int .u8)),some .str,v=>match AI res e (.int .u8) v with
   | some xs=>K (.val .str (strOfNums xs)) []
   | none=>none
  | _,_,_=>none
 | .makeFunc (.func g) first _,vs=>match first.size with
  | 0=>K (.fn g vs) []
  | _=>none
 | .makeSlice T l c,[x,_]=>match cD E.ty T,wq l c,x with
  | some (.slice e t),true,.val (.int _) n=>match cD E.by_ e with
   | some nb=>if 0≤n then(if n.toNat*nb≤140737488355328 then K (.row r0) [(r0,some (.row e t (W3 n.toNat t.dflt) false))] else none) else none
   | none=>none
  | _,_,_=>none
 | .slice T _ lo hi mx,x :: is=>match cD E.ty T,mx with
  | some ty,none=>match Fk E T o.dst with
   | true=>sM lo hi ty x is res K
   | false=>match IL E T o.dst with
    | true=>po ty (match lo with | some _=>is.head? | none=>none) (match hi with | some _=>is.getLast? | none=>none) x res K
    | false=>pn ty (match lo with | some _=>is.head? | none=>none) (match hi with | some _=>is.getLast? | none=>none) x res r0 K
  | _,_=>none
 | .fieldAddr T _ f,[p]=>match cD E.ty T with
  | some (.agg t)=>match p with
   | .ptr r s path=>match cw t f with
    | some (_,s')=>if s = .agg t then K (.ptr r s' (path++[f])) [] else none
    | none=>none
   | .eptr s x=>match ef? (.agg t) x with
    | some x=>match j9 t x f with
     | some (.val s y)=>K (.eptr s y) []
     | _=>none
    | none=>none
   | .rptr r s i path=>match cw t f with
    | some (_,s')=>if s = .agg t then K (.rptr r s' i (path++[f])) [] else none
    | none=>none
   | _=>none
  | _=>none
 | .field T _ f,[x]=>match cD E.ty T with
  | some t=>match eg res 9 t x with
   | true=>match uc x f with
    | some v=>K v []
    | none=>none
   | false=>none
  | none=>none
 | .indexAddr T _ _,[x,i]=>match cD E.ty T,i with
  | some (.slice e t),.val (.int _) n=>match x with
   | .row r=>match ay res r with
    | some (.row e' u xs fr)=>if Ty.slice e' u = .slice e t then(match fr with
     | false=>if 0≤n then(if n < xs.length then K (.rptr r t n []) [] else none) else none
     | true=>if 0≤n then(if n < xs.length then K (.eptr u (xs.getD n.toNat u.dflt)) [] else none) else none) else none
    | some (.old e' u xs)=>if Ty.slice e' u = .slice e t then(if 0≤n then(if n < xs.length then K (.eptr u (xs.getD n.toNat u.dflt)) [] else none) else none) else none
    | some (.rowP e' l)=>if Ty.slice e' .pt = .slice e t then(if 0≤n then(if n < l.length then K (.rptr r t n []) [] else none) else none) else none
    | _=>none
   | .val s xs=>match ef? (.slice e t) xs with
    | some xs=>if 0≤n then(if n < (xs:List t.den).length then K (.eptr t (xs.getD n.toNat t.dflt)) [] else none) else none
    | none=>none
   | .tail r l=>match ay res r with
    | some (.row e' u xs false)=>if Ty.slice e' u = .slice e t then(if 0≤n then(if n < (xs.length:Int) - l then K (.rptr r t (l+n) []) [] else none) else none) else none
    | _=>none
   | _=>none
  | _,_=>none
 | .index T _ _,[x,i]=>match cD E.ty T,x,i with
  | some .str,.val .str s,.val (.int _) n=>if 0≤n then(if n < s.size then K (.val (.int .u8) (bt s n)) [] else none) else none
  | _,_,_=>none
 | .extract _ i,[x]=>match x with
  | .tup l=>match l[i]? with | some v=>K v [] | none=>none
  | _=>none
 | .call c,vs=>match c.callee,vs with
  | .builtin b,vs=>mH E b c.argTypes o.type vs res r0 K
  | .value _,.fn g caps :: as=>ga E call g (as++caps) res r0 K
  | _,_=>none
 | _,_=>none
def Ck:Value→SV
 | .int k n => .val (.int k) n
 | .bool b => .val .bool b
 | .string s => .val .str s
 | .slice none 0 0 => .nilS
 | _ => .undef
def ev (l:List SV):Operand→SV
 | .tmp t=>eW l t
 | .const v=>Ck v
 | .func f => .fn f []
 | .global _ => .undef
def cU:Op→List Operand
 | .alloc _=>[]
 | .move x | .assign x | .box _ x | .load _ x | .nilCheck x | .unOp _ _ x | .convert _ _ x | .fieldAddr _ x _ | .field _ x _ | .extract x _=>[x]
 | .pick c a b=>[c,a,b]
 | .build _ ps | .buildSlice _ _ ps=>ps.toList.map (·.2)
 | .store _ a v | .binOp _ _ a v _ | .makeSlice _ a v | .indexAddr _ a v | .index _ a v=>[a,v]
 | .makeFunc _ first captured=>first.toList++captured.toList
 | .slice _ x l h m=>x :: (l.toList++h.toList++m.toList)
 | .call c=>(match c.callee with | .value f=>[f] | _=>[])++c.args.toList
 | _=>[]
def kT (σ:St) (d:Option Nat) (v:SV) (u:Up):St :=
 {σ with slots:=match d with | some d=>cH σ.slots d v | none=>σ.slots,res:=sH σ.res u}
def eX (res:aB):List Nat→aB
 | []=>[]
 | r :: l=>match ay res r with
  | some v=>(r,v) :: eX res l
  | none=>eX res l
structure wu where
 i:Nat
 see:List Nat
 turn:List Nat
def RA:Op→Bool
 | .move _ | .assign _ | .nilCheck _ | .unOp _ _ _ | .fieldAddr _ _ _ | .extract _ _ | .makeFunc _ _ _ | .index _ _ _=>true
 | _=>false
def Sf:Op→Bool
 | .load _ _=>true
 | _=>false
def jG (o:Oper) (res:aB) (vs:List SV):List Nat:=match RA o.op with
 | true=>[]
 | false=>match Sf o.op with
  | true=>vs.foldl (fun l v=>nj 9 v l) []
  | false=>ci res vs
def LB (o:Oper):List Nat:=(cU o.op).filterMap fun | .tmp t=>some t | _=>none
def jH (all:Array Oper) (o:Oper):List Nat:=LB o++(match o.guard with | some (j,_)=>(match all[j]?.bind (·.dst) with | some d=>[d] | none=>[]) | none=>[])
def rf (all:Array Oper) (a b:wu):Bool:=match all[a.i]?,all[b.i]? with
 | some x,some y =>
  let xd:=x.dst.toList; let yd:=y.dst.toList
  ic xd (yd++jH all y) || ic yd (jH all x) || ic a.turn (b.see++b.turn) || ic b.turn a.see
 | _,_=>true
def xX (all:Array Oper) (bf:Array Nat):List wu→Bool
 | []=>true
 | b :: l=>(l.all fun a => !(rf all a b) || (bf.getD b.i 0).testBit a.i) && xX all bf l
def Cl (all:Array Oper):Bool:=(aq_ all.size).all fun i=>match all[i]? with
 | some o=>o.after.all fun e => !Region.binds .any e || Nat.blt e.on i
 | none=>true
def pI (r0:Nat) (see:List Nat) (u:Up):Bool:=u.all fun(r,_)=>ud see r || (Nat.ble r0 r && Nat.blt r (r0+64))
def ch (all:Array Oper) (draw:Bool) (base:Nat):List (Nat×Oper)→List wu→St→(St→Option R)→Option R
 | [],g,σ,K=>match draw with
  | false=>K σ
  | true=>match xX all (Region.before all) g,Cl all with | true,true=>K σ | _,_=>none
 | (i,o) :: l,g,σ,K =>
  let act:=fun(σ:St) (b:Bool)=>match b with
   | true =>
    let vs:=(cU o.op).map (ev σ.slots)
    let ids:=jG o σ.res vs
    cf E call o vs (eX σ.res ids) (base+64*i) fun v u=>match pI (base+64*i) ids u with
     | true=>ch all draw base l ({i,see:=ids,turn:=u.map (·.1)} :: g) (kT σ o.dst v u) K
     | false=>none
   | false=>ch all draw base l ({i,see:=[],turn:=[]} :: g) (kT σ o.dst (.tup []) []) K
  match o.guard with
  | none=>act σ true
  | some (j,want)=>match all[j]?.bind (·.dst) with
    | some d=>match eW σ.slots d with
     | .val .bool x=>if x=true then act {σ with slots:=cH σ.slots d (.val .bool true)} (true == want) else act {σ with slots:=cH σ.slots d (.val .bool false)} (false == want)
     | .tup []=>act σ false
     | _=>none
    | none=>none
end
inductive Fr where
 | seq (b:Code)
 | block (id:Nat)
 | loop (b:Code)
def oq (live:List Nat):Nat→List SV→List SV
 | _,[]=>[]
 | n,v :: l=>(match cP n live 0 with | some _=>v | none => .undef) :: oq live (n+1) l
def norm (live:List Nat) (σ:St):St :=
 let sl:=oq live 0 σ.slots
 let ids:=iP σ.res sl (lG σ.n0)
 let f:=fun r=>cP r ids 0
 {slots:=sl.map (kj f 9),res:=cj σ.res f ids 0,nx:=ids.length,n0:=σ.n0}
def aD:Sh→SV→List Nat
 | .row _ _ _,.row r=>[r]
 | .ptr _,.ptr r _ _=>[r]
 | .strct s,.strct l=>go s l
 | _,_=>[]
where
 go:Sh→List SV→List Nat
 | .pair a b,v :: l=>aD a v++go b l
 | _,_=>[]
def bJ (s:Sh) (l:List SV):List Nat:=aD.go s l
abbrev ka:=(I:ap)→{R:Type}→(St→Option R)→Code→List Fr→St→Option R
def jI (rb:Bool) (res:aB):aB→Option (List SV)
 | []=>some []
 | (j,.box t _) :: l=>match ay res j with
  | some (.box t' c)=>if t'=t then(jI rb res l).bind fun cs=>some (c :: cs) else none
  | _=>none
 | (j,.row _ _ _ _) :: l=>match rb with
  | true=>(jI rb res l).bind fun cs=>some (.row j :: cs)
  | false=>jI rb res l
 | _ :: l=>jI rb res l
def dF:Sh→SV→List Nat
 | .val _,v=>cG 9 v
 | .strct s,.strct l=>go s l
 | _,_=>[]
where
 go:Sh→List SV→List Nat
 | .pair a b,v :: l=>dF a v++go b l
 | _,_=>[]
def dC (E:ce) (σ:St):ResultVar→SV
 | .tmp t=>eW σ.slots t
 | .cell a T=>match eW σ.slots a,cD E.ty T with
  | .ptr r s path,some t=>match ay σ.res r with
   | some (.box bt c)=>match Fi bt path c with | some v=>if s=t then v else .undef | none => .undef
   | _ => .undef
  | _,_ => .undef
def nl (n0:Nat) (res:aB):(s:Sh)→SV→Option s.den
 | .unit,v=>match v with
  | .undef=>none
  | _=>some ()
 | .ptr t,v=>match v with
  | .ptr r s' []=>match Nat.ble n0 r,ay res r with
   | true,some (.box t' c)=>if s'=t then(if t'=t then cq [] 9 t c else none) else none
   | _,_=>none
  | _=>none
 | s,v=>ej res s v
def ji (n0:Nat) (res:aB):(s:Sh)→List SV→Option s.den
 | .pair a b,v :: l=>(nl n0 res a v).bind fun x=>(ji n0 res b l).bind fun y=>some (x,y)
 | .unit,[]=>some ()
 | _,_=>none
def gb (E:ce) (I:ap) (tab:aB) (σ:St):Option (I.sh.den×I.bx.den) :=
 let vs:=I.fn.results.toList.map (dC E σ)
 (ji tab.length σ.res I.sh vs).bind fun x=>(jI I.rb σ.res tab).bind fun cs=>(ej.go σ.res I.bx cs).bind fun y =>
  match AF (bJ I.sh vs++bJ I.bx cs),ic (bJ I.sh vs++bJ I.bx cs) (dF.go I.sh vs++dF.go I.bx cs) with
  | true,false=>some (x,y)
  | _,_=>none
def aR (f:Func):Code:=match f.body with | some c=>c | none => .refuse ""
def start (I:ap) (args:List SV) (tab:aB):St :=
 {slots:=args++W3 (I.fn.ntmps - args.length) .undef,res:=tab,nx:=tab.length,n0:=tab.length}
def dH (E:ce) (rec:ka) (I:ap) (args:List SV) (tab:aB):Option (I.sh.den×I.bx.den) :=
 match I.prim with
 | some f=>f args tab
 | none=>rec I (gb E I tab) (aR I.fn) [] (start I args tab)
def uf (I:ap) (id:Nat):List Fr→Option (List Fr)
 | []=>none
 | .block j :: S=>match Y3 j id with | true=>some S | false=>uf I id S
 | _ :: S=>uf I id S
def pJ (rec:ka) (I:ap) {R:Type} (K:St→Option R) (S:List Fr) (σ:St):Option R :=
 match S with
 | []=>K σ
 | .seq b :: S=>rec I K b S σ
 | .block _ :: S=>rec I K .skip S σ
 | .loop b :: S=>rec I K (.loop b) S σ
def ot (E:ce) (rec:ka):ka:=fun I _ K c S σ=>match c with
 | .skip=>pJ rec I K S σ
 | .region id ops draw =>
  let σ:=match cD I.live id with | some l=>norm l σ | none=>σ
  ch {E with sub:=I.sub} (dH E rec) ops draw σ.nx ((aq_ ops.size).zip ops.toList) [] σ fun σ'=>pJ rec I K S {σ' with nx:=σ.nx+64*ops.size}
 | .seq a b=>rec I K a (.seq b :: S) σ
 | .cond c a b=>match ev σ.slots c with
  | .val .bool x=>if x=true then rec I K a S σ else rec I K b S σ
  | _=>none
 | .block id b=>rec I K b (.block id :: S) σ
 | .loop b=>rec I K b (.loop b :: S) σ
 | .exit id=>match uf I id S with | some S'=>rec I K .skip S' σ | none=>none
 | .ret=>K σ
 | _=>none
def run (E:ce) (k:Nat):ka:=Nat.rec (fun _ _ _ _ _ _=>none) (fun _ rec=>ot E rec) k
def call (E:ce) (k:Nat) (I:ap) (args:List SV) (tab:aB):Option (I.sh.den×I.bx.den):=dH E (run E k) I args tab
end Go.Proofs.YtfffplonjaigkaaGreatDoor.Abs
set_option linter.unusedVariables false
set_option linter.unusedSimpArgs false
namespace Go.Proofs.YtfffplonjaigkaaGreatDoor.Abs
open Go Go.RowKit
abbrev Lk:=Nat→Nat→Value→Prop
def RK (L:Lk):(t:Ty)→t.den→List Value→Prop
 | .int k,n,cs=>cs=[.int k n]
 | .bool,b,cs=>cs=[.bool b]
 | .str,s,cs=>cs=[.string s]
 | .unit,_,cs=>cs=[]
 | .pair a b,x,cs => ∃ c d,cs=c++d∧RK L a x.1 c∧RK L b x.2 d
 | .agg t,x,cs=>RK L t x cs
 | .err,b,cs=>(b=true∧cs=[.nilIface])∨(b=false ∧ ∃ T p,cs=[.iface T p])
 | .fn,_,cs=>cs=[.nilFunc]
 | .pt,_,cs=>cs=[.pointer none]
 | .bp _,_,cs=>cs=[.pointer none]
 | .slice _ t,xs,cs => ∃ A cap,cs=[.slice A (xs:List t.den).length cap]∧xs.length≤cap ∧
   (xs≠[] → ∃ b o,A=some ⟨b,o,none⟩ ∧ ∀ i (h:i < xs.length),∃ c,RK L t xs[i] c ∧ ∀ j v,c[j]? = some v→L b (o+i*t.sz+j) v)
theorem dv {L:Lk} : ∀ {t:Ty} {x:t.den} {cs:List Value},RK L t x cs→cs.length=t.sz
 | .int k,n,cs,h=>by rw[show cs=_ from h]; rfl
 | .bool,b,cs,h=>by rw[show cs=_ from h]; rfl
 | .str,s,cs,h=>by rw[show cs=_ from h]; rfl
 | .unit,_,cs,h=>by rw[show cs=_ from h]; rfl
 | .pair a b,x,cs,h=>by
  obtain⟨c,d,rfl,h1,h2⟩:=h
  rw[S5,dv h1,dv h2]
  rfl
 | .agg t,x,cs,h=>dv (t:=t) h
 | .err,b,cs,h=>by rcases h with⟨_,rfl⟩ | ⟨_,T,p,rfl⟩ <;> rfl
 | .fn,_,cs,h=>by rw[show cs=_ from h]; rfl
 | .pt,_,cs,h=>by rw[show cs=_ from h]; rfl
 | .bp _,_,cs,h=>by rw[show cs=_ from h]; rfl
 | .slice _ t,xs,cs,h=>by
  obtain⟨A,cap,rfl,_⟩:=h
  rfl
theorem eP {L L':Lk} (hL : ∀ b o v,L b o v→L' b o v) : ∀ {t:Ty} {x:t.den} {cs:List Value},RK L t x cs→RK L' t x cs
 | .int k,n,cs,h=>h
 | .bool,b,cs,h=>h
 | .str,s,cs,h=>h
 | .unit,_,cs,h=>h
 | .pair a b,x,cs,h=>by
  obtain⟨c,d,rfl,h1,h2⟩:=h
  exact⟨c,d,rfl,eP hL h1,eP hL h2⟩
 | .agg t,x,cs,h=>eP (t:=t) hL h
 | .err,_,_,h=>h
 | .fn,_,_,h=>h
 | .pt,_,_,h=>h
 | .bp _,_,_,h=>h
 | .slice _ t,xs,cs,h=>by
  obtain⟨A,cap,rfl,hc,h⟩:=h
  refine⟨A,cap,rfl,hc,fun hne => ?_⟩
  obtain⟨b,o,hA,hh⟩:=h hne
  refine⟨b,o,hA,fun i hi => ?_⟩
  obtain⟨c,h1,h2⟩:=hh i hi
  exact⟨c,eP hL h1,fun j v hj=>hL _ _ _ (h2 j v hj)⟩
def one (v:Value):Prop:=(∀ l,v ≠ .agg l) ∧ ∀ l,v ≠ .tuple l
theorem lI {L:Lk} : ∀ {t:Ty} {x:t.den} {cs:List Value},RK L t x cs → ∀ v∈cs,v.oneCell'=true
 | .int k,n,cs,h,v,hv=>by
  rw[show cs=_ from h] at hv
  rw[U4.1 hv]
  rfl
 | .bool,b,cs,h,v,hv=>by
  rw[show cs=_ from h] at hv
  rw[U4.1 hv]
  rfl
 | .str,s,cs,h,v,hv=>by
  rw[show cs=_ from h] at hv
  rw[U4.1 hv]
  rfl
 | .unit,_,cs,h,v,hv=>by
  rw[show cs=_ from h] at hv
  cases hv
 | .pair a b,x,cs,h,v,hv=>by
  obtain⟨c,d,rfl,h1,h2⟩:=h
  rcases W1.1 hv with hv | hv
  ·exact lI h1 v hv
  ·exact lI h2 v hv
 | .agg t,x,cs,h,v,hv=>lI (t:=t) h v hv
 | .err,b,cs,h,v,hv=>by rcases h with⟨_,rfl⟩ | ⟨_,T,p,rfl⟩ <;> (rw[U4.1 hv]; rfl)
 | .fn,_,cs,h,v,hv=>by
  rw[show cs=_ from h] at hv
  rw[U4.1 hv]
  rfl
 | .pt,_,cs,h,v,hv=>by
  rw[show cs=_ from h] at hv
  rw[U4.1 hv]
  rfl
 | .bp _,_,cs,h,v,hv=>by
  rw[show cs=_ from h] at hv
  rw[U4.1 hv]
  rfl
 | .slice _ t,xs,cs,h,v,hv=>by
  obtain⟨A,cap,rfl,_⟩:=h
  rw[U4.1 hv]
  rfl
def mk (t:Ty) (cs:List Value):Value:=match t with
 | .agg _ => .agg cs.toArray
 | _=>cs.headD undef
theorem Fl {L:Lk} {t:Ty} {x:t.den} {cs:List Value} (h:RK L t x cs) (ht:t.sz=1 ∨ ∃ u,t = .agg u):(mk t cs).cells=cs.toArray:=by
 match t,x,h,ht with
 | .int k,n,h,_=>rw[show cs=_ from h]; rfl
 | .bool,b,h,_=>rw[show cs=_ from h]; rfl
 | .str,s,h,_=>rw[show cs=_ from h]; rfl
 | .agg t,x,h,_=>rfl
 | .err,b,h,_=>rcases h with⟨_,rfl⟩ | ⟨_,T,p,rfl⟩ <;> rfl
 | .fn,_,h,_=>rw[show cs=_ from h]; rfl
 | .pt,_,h,_=>rw[show cs=_ from h]; rfl
 | .bp _,_,h,_=>rw[show cs=_ from h]; rfl
 | .slice _ t,xs,h,_ =>
  obtain⟨A,cap,rfl,_⟩:=h
  rfl
 | .unit,_,h,ht=>rcases ht with ht | ⟨u,ht⟩ <;> cases ht
 | .pair a b,x,h,ht =>
  rcases ht with ht | ⟨u,ht⟩
  ·obtain⟨v,rfl⟩ : ∃ v,cs=[v]:=bx_.1 ((dv h).trans ht)
   have:=lI h v (U4.2 rfl)
   show v.cells = #[v]
   cases v <;> first | rfl | cases this
  ·cases ht
inductive G where
 | box (b:Nat) (t:Ty)
 | row (e:TypeId) (t:Ty) (v:Value)
inductive R1 (L:Lk) (γ:Nat→Option G):SV→Value→Prop
 | undef {v:Value}:R1 L γ .undef v
 | nilS:R1 L γ .nilS (.slice none 0 0)
 | val {t:Ty} {x:t.den} {cs:List Value} (h:RK L t x cs):R1 L γ (.val t x) (mk t cs)
 | row {e:TypeId} {t:Ty} {r:Nat} {v:Value} (h:γ r=some (.row e t v)):R1 L γ (.row r) v
 | ptr {r b o:Nat} {t s:Ty} {p:List Nat} (h:γ r=some (.box b t)) (hp:dj t p=some (o,s)):R1 L γ (.ptr r s p) (.pointer (some ⟨b,o,none⟩))
inductive vG (L:Lk) (γ:Nat→Option G):List SV→List Value→Prop
 | nil:vG L γ [] []
 | cons {v:SV} {l:List SV} {u:Value} {us:List Value} (h:R1 L γ v u) (k:vG L γ l us):vG L γ (v :: l) (u :: us)
mutual
inductive RT (L:Lk) (γ:Nat→Option G):Ty→SV→List Value→Prop
 | val {t:Ty} {x:t.den} {cs:List Value} (h:RK L t x cs):RT L γ t (.val t x) cs
 | nilS {e:TypeId} {t:Ty}:RT L γ (.slice e t) .nilS [.slice none 0 0]
 | row {e:TypeId} {t:Ty} {r:Nat} {v:Value} (h:γ r=some (.row e t v)):RT L γ (.slice e t) (.row r) [v]
 | strct {t:Ty} {l:List SV} {cs:List Value} (h:eG L γ t l cs):RT L γ (.agg t) (.strct l) cs
inductive eG (L:Lk) (γ:Nat→Option G):Ty→List SV→List Value→Prop
 | nil:eG L γ .unit [] []
 | cons {a b:Ty} {v:SV} {l:List SV} {c d:List Value} (h:RT L γ a v c) (k:eG L γ b l d):eG L γ (.pair a b) (v :: l) (c++d)
end
mutual
inductive RV (L:Lk) (γ:Nat→Option G):SV→Value→Prop
 | undef {v:Value}:RV L γ .undef v
 | nilS:RV L γ .nilS (.slice none 0 0)
 | val {t:Ty} {x:t.den} {cs:List Value} (h:RK L t x cs):RV L γ (.val t x) (mk t cs)
 | row {e:TypeId} {t:Ty} {r:Nat} {v:Value} (h:γ r=some (.row e t v)):RV L γ (.row r) v
 | ptr {r b o:Nat} {t s:Ty} {p:List Nat} (h:γ r=some (.box b t)) (hp:dj t p=some (o,s)):RV L γ (.ptr r s p) (.pointer (some ⟨b,o,none⟩))
 | eptr {t:Ty} {x:t.den} {cs:List Value} {b o:Nat} (h:RK L t x cs) (hc : ∀ j v,cs[j]? = some v→L b (o+j) v):RV L γ (.eptr t x) (.pointer (some ⟨b,o,none⟩))
 | rptr {r b n cap o:Nat} {e:TypeId} {t s:Ty} {i:Int} {p:List Nat} (h:γ r=some (.row e t (.slice (some ⟨b,0,none⟩) n cap))) (h0:0≤i) (hn:i < n) (hp:dj t p=some (o,s)) :
   RV L γ (.rptr r s i p) (.pointer (some ⟨b,i.toNat*t.sz+o,none⟩))
 | tail {r b n cap:Nat} {e:TypeId} {t:Ty} {i:Int} (h:γ r=some (.row e t (.slice (some ⟨b,0,none⟩) n cap))) (h0:0≤i) (hn:i < n) (hc:n≤cap) :
   RV L γ (.tail r i) (.slice (some ⟨b,i.toNat*t.sz,none⟩) (n - i.toNat) (cap - i.toNat))
 | fn {g:Nat} {caps:List SV} {vs:List Value} (h:b8 L γ caps vs):RV L γ (.fn g caps) (.func (.func g) #[] vs.toArray)
 | tup {l:List SV} {vs:List Value} (h:b8 L γ l vs):RV L γ (.tup l) (.tuple vs.toArray)
 | strct {t:Ty} {l:List SV} {cs:List Value} (h:eG L γ t l cs):RV L γ (.strct l) (.agg cs.toArray)
inductive b8 (L:Lk) (γ:Nat→Option G):List SV→List Value→Prop
 | nil:b8 L γ [] []
 | cons {v:SV} {l:List SV} {u:Value} {us:List Value} (h:RV L γ v u) (k:b8 L γ l us):b8 L γ (v :: l) (u :: us)
end
section
variable {L L':Lk} {γ γ':Nat→Option G}
theorem Pp (hL : ∀ b o v,L b o v→L' b o v) (hγ : ∀ r g,γ r=some g→γ' r=some g) {v:SV} {u:Value} (h:R1 L γ v u):R1 L' γ' v u:=by
 cases h with
 | undef=>exact .undef
 | nilS=>exact .nilS
 | val h=>exact .val (eP hL h)
 | row h=>exact .row (hγ _ _ h)
 | ptr h hp=>exact .ptr (hγ _ _ h) hp
theorem jj (hL : ∀ b o v,L b o v→L' b o v) (hγ : ∀ r g,γ r=some g→γ' r=some g) : ∀ {l:List SV} {us:List Value},vG L γ l us→vG L' γ' l us
 | _,_,.nil => .nil
 | _,_,.cons h k => .cons (Pp hL hγ h) (jj hL hγ k)
theorem Pe {v:SV} {u:Value} (h:R1 L γ v u):RV L γ v u:=by
 cases h with
 | undef=>exact .undef
 | nilS=>exact .nilS
 | val h=>exact .val h
 | row h=>exact .row h
 | ptr h hp=>exact .ptr h hp
theorem IM : ∀ {l:List SV} {us:List Value},vG L γ l us→b8 L γ l us
 | _,_,.nil => .nil
 | _,_,.cons h k => .cons (Pe h) (IM k)
theorem IP : ∀ {l:List SV} {us:List Value},vG L γ l us → ∀ {i:Nat} {v:SV},l[i]? = some v → ∃ u,us[i]? = some u∧R1 L γ v u
 | _,_,.nil,i,v,h=>by simp at h
 | _,_,.cons (u:=u) hv k,0,v,h=>by
  simp at h
  subst h
  exact⟨u,rfl,hv⟩
 | _,_,.cons hv k,i+1,v,h=>by
  obtain⟨u,h1,h2⟩:=IP k (i:=i) (v:=v) (by simpa using h)
  exact⟨u,by simpa using h1,h2⟩
theorem RB {v:SV} {u:Value} (h:RV L γ v u) (hs:JW v=true):R1 L γ v u:=by
 cases h <;> first | (cases hs; done) | exact .undef | exact .nilS | (exact .val (by assumption)) | (exact .row (by assumption)) | (exact .ptr (by assumption) (by assumption))
theorem Cm : ∀ {l:List SV} {us:List Value},b8 L γ l us→l.all JW=true→vG L γ l us
 | _,_,.nil,_ => .nil
 | _,_,.cons h k,hs=>by
  simp only[List.all_cons,S8] at hs
  exact .cons (RB h hs.1) (Cm k hs.2)
mutual
theorem mI (hL : ∀ b o v,L b o v→L' b o v) (hγ : ∀ r g,γ r=some g→γ' r=some g) : ∀ {t:Ty} {v:SV} {cs:List Value},RT L γ t v cs→RT L' γ' t v cs
 | _,_,_,.val h => .val (eP hL h)
 | _,_,_,.nilS => .nilS
 | _,_,_,.row h => .row (hγ _ _ h)
 | _,_,_,.strct h => .strct (ug hL hγ h)
theorem ug (hL : ∀ b o v,L b o v→L' b o v) (hγ : ∀ r g,γ r=some g→γ' r=some g) : ∀ {t:Ty} {l:List SV} {cs:List Value},eG L γ t l cs→eG L' γ' t l cs
 | _,_,_,.nil => .nil
 | _,_,_,.cons h k => .cons (mI hL hγ h) (ug hL hγ k)
end
mutual
theorem pu (hL : ∀ b o v,L b o v→L' b o v) (hγ : ∀ r g,γ r=some g→γ' r=some g) : ∀ {v:SV} {u:Value},RV L γ v u→RV L' γ' v u
 | _,_,.undef => .undef
 | _,_,.nilS => .nilS
 | _,_,.val h => .val (eP hL h)
 | _,_,.row h => .row (hγ _ _ h)
 | _,_,.ptr h hp => .ptr (hγ _ _ h) hp
 | _,_,.eptr h hc => .eptr (eP hL h) fun j v hj=>hL _ _ _ (hc j v hj)
 | _,_,.rptr h h0 hn hp => .rptr (hγ _ _ h) h0 hn hp
 | _,_,.tail h h0 hn hc => .tail (hγ _ _ h) h0 hn hc
 | _,_,.fn h => .fn (eY hL hγ h)
 | _,_,.tup h => .tup (eY hL hγ h)
 | _,_,.strct h => .strct (ug hL hγ h)
theorem eY (hL : ∀ b o v,L b o v→L' b o v) (hγ : ∀ r g,γ r=some g→γ' r=some g) : ∀ {l:List SV} {us:List Value},b8 L γ l us→b8 L' γ' l us
 | _,_,.nil => .nil
 | _,_,.cons h k => .cons (pu hL hγ h) (eY hL hγ k)
end
end
theorem IQ {L:Lk} {γ:Nat→Option G} : ∀ {l:List SV} {us:List Value},b8 L γ l us→l.length=us.length
 | _,_,.nil=>rfl
 | _,_,.cons _ k=>by simp[IQ k]
theorem sP {L:Lk} {γ:Nat→Option G} : ∀ {l:List SV} {us:List Value},b8 L γ l us → ∀ {i:Nat} {v:SV},l[i]? = some v → ∃ u,us[i]? = some u∧RV L γ v u
 | _,_,.nil,i,v,h=>by simp at h
 | _,_,.cons (u:=u) hv k,0,v,h=>by
  simp at h
  subst h
  exact⟨u,rfl,hv⟩
 | _,_,.cons hv k,i+1,v,h=>by
  obtain⟨u,h1,h2⟩:=sP k (i:=i) (v:=v) (by simpa using h)
  exact⟨u,by simpa using h1,h2⟩
theorem Cn {L:Lk} {γ:Nat→Option G} {t:Ty} {l:List SV} {cs:List Value} (h:eG L γ t l cs):cs.length=t.sz:=by
 induction h using eG.rec (motive_1:=fun t _ cs _=>cs.length=t.sz) with
 | val h=>exact dv h
 | nilS=>rfl
 | row h=>rfl
 | strct h ih=>exact ih
 | nil=>rfl
 | cons h k ih1 ih2=>rw[S5,ih1,ih2]; rfl
theorem d9 {L:Lk} {γ:Nat→Option G} {t:Ty} {v:SV} {cs:List Value} (h:RT L γ t v cs):cs.length=t.sz:=by
 cases h with
 | val h=>exact dv h
 | nilS=>rfl
 | row h=>rfl
 | strct h=>exact(Cn h:_)
end Go.Proofs.YtfffplonjaigkaaGreatDoor.Abs
namespace Go.Proofs.YtfffplonjaigkaaGreatDoor.Abs
open Go Go.RowKit
def zc:Ty→List Value
 | .int k=>[.int k 0]
 | .bool=>[.bool false]
 | .str=>[.string ⟨#[]⟩]
 | .unit=>[]
 | .pair a b=>zc a++zc b
 | .agg t=>zc t
 | .slice _ _=>[.slice none 0 0]
 | .err=>[.nilIface]
 | .fn=>[.nilFunc]
 | .pt=>[.pointer none]
 | .bp _=>[.pointer none]
def lJ:Ty→Bool
 | .agg _=>true
 | _=>false
def NL:TypeDesc→Bool
 | .struct _=>true
 | .array _ _=>true
 | _=>false
def cJ:Bool→Ty→Bool
 | true,.pair a b=>cJ false a && cJ true b
 | true,.unit=>true
 | true,_=>false
 | false,.agg t=>cJ true t
 | false,.pair _ _=>false
 | false,.unit=>false
 | false,_=>true
structure eb (P:Program) (T:TypeId) (t:Ty):Prop where
 mk ::
 info : ∃ i,P.info? T=some i∧i.size=t.sz ∧ ∃ z,i.zero=some z∧z.cells.toList=zc t
 agg : ∃ d,P.underlying T=some d∧NL d=lJ t
 wf:cJ false t=true
 bld : ∀ T' s,t = .agg (.pair (.bp T') s)→T=T'
theorem eb.one {P:Program} {T:TypeId} {t:Ty} (h:eb P T t):t.sz=1 ∨ ∃ u,t = .agg u:=by
 have:=h.wf
 cases t <;> first | (left; rfl) | (right; exact⟨_,rfl⟩) | (simp[cJ] at this)
def IR (P:Program):List Field→Ty→Nat→Prop
 | [],.unit,_=>True
 | f :: fs,.pair a b,o=>f.offset=o∧f.name ≠ "_" ∧ 0 < a.sz∧eb P f.type a∧IR P fs b (o+a.sz)
 | _,_,_=>False
def jJ (P:Program) (T:TypeId):Ty→Prop
 | .int k=>P.underlying T=some (.int k)
 | .bool=>P.underlying T=some .bool
 | .str=>P.underlying T=some .string
 | .slice e t=>P.underlying T=some (.slice e)∧eb P e t∧0 < t.sz∧(t = .int .u8→P.underlying e=some (.int .u8))
 | .agg t => ∃ fs,P.underlying T=some (.struct fs)∧IR P fs.toList t 0
 | .err => ∃ ms,P.underlying T=some (.interface ms)
 | .fn=>True
 | .pt=>True
 | .bp _=>True
 | _=>False
def Qq (P:Program) (T:TypeId) (t:Ty):Prop:=(∃ s,t = .agg s)∧P.eqGuardType P.depth T=false ∧
 ∀(L:Lk) (x y:t.den) (cs ds:List Value) (w:World),RK L t x cs→RK L t y ds→(Op.equalIn 10000 T (mk t cs) (mk t ds)).run P w = .ok (bV t x y) w
structure d7 (P:Program) (E:ce):Prop where
 ty : ∀ T t,cD E.ty T=some t→jJ P T t∧eb P T t
 by_ : ∀ e nb i,cD E.by_ e=some nb→P.info? e=some i→i.bytes=nb∧0 < nb
 fns : ∀ g I,cD E.fns g=some I→P.funcs[I.g]? = some I.fn∧I.fn.body.isSome=true∧(I.fn.name == "runtime.NumGoroutine")=false
 eqs : ∀ T t,cD E.eqs T=some t→Qq P T t
def Ln (Pr:Nat→Nat→Prop) (w:World):Lk:=fun b o v=>Pr b o∧w.cell? ⟨b,o,none⟩=some v
def bj (γ:Nat→Option G) (r:Nat):aP→Option Nat
 | .box _ _=>match γ r with
  | some (.box b _)=>some b
  | _=>none
 | .row _ _ _ _=>match γ r with
  | some (.row _ _ v)=>v.ownBlock
  | _=>none
 | .old _ _ _=>none
 | .gone _ _ _=>none
 | .keepF _ _=>none
 | .rowP _ _=>none
def hJ (L:Lk) (t:Ty) (xs:List t.den) (css:List (List Value)):Prop:=css.length=xs.length ∧ ∀ i (h:i < xs.length) (h':i < css.length),RK L t xs[i] css[i]
def kE (L:Lk) (γ:Nat→Option G) (b:Nat) (T:TypeId) (t:Ty) (c:SV) (cs:List Value):Prop :=
 (∀ T' s,t = .agg (.pair (.bp T') s)→T=T')∧(RT L γ t c cs∨(AE t=true ∧ ∃ l,cs = .pointer (some ⟨b,0,none⟩) :: l∧RT L γ t c (.pointer none :: l)))
theorem kE.map {L L':Lk} {γ γ':Nat→Option G} {b:Nat} {T:TypeId} {t:Ty} {c c':SV} {cs:List Value} (h:kE L γ b T t c cs) (f : ∀ cs,RT L γ t c cs→RT L' γ' t c' cs):kE L' γ' b T t c' cs :=
 ⟨h.1,h.2.elim (fun k => .inl (f _ k)) fun⟨k1,l,k2,k3⟩ => .inr ⟨k1,l,k2,f _ k3⟩⟩
theorem kE.exact {L:Lk} {γ:Nat→Option G} {b:Nat} {T:TypeId} {t:Ty} {c:SV} {cs:List Value} (h:kE L γ b T t c cs) (hb:AE t=false):RT L γ t c cs :=
 h.2.elim id fun k=>by rw[hb] at k; cases k.1
theorem kE.len {L:Lk} {γ:Nat→Option G} {b:Nat} {T:TypeId} {t:Ty} {c:SV} {cs:List Value} (h:kE L γ b T t c cs):cs.length=t.sz:=by
 rcases h.2 with k | ⟨_,l,rfl,k⟩
 ·exact d9 k
 ·have:=d9 k
  simpa using this
theorem Pq {t:Ty} {p:List Nat} {c v:SV} (h:Fi t p c=some v):AE t=false∧wo p c=some v:=by
 unfold Fi at h
 split at h
 ·cases h
 ·rename_i hb
  exact⟨hb,h⟩
def gC (L:Lk) (Pr:Nat→Nat→Prop) (γ:Nat→Option G) (w:World) (r:Nat):aP→Prop
 | .box t c => ∃ b arr T,γ r=some (.box b t)∧w.heap[b]? = some (.cells arr T (0,0))∧kE L γ b T t c arr.toList
 | .row e t xs fr => ∃ v css,γ r=some (.row e t v)∧hJ L t xs css∧w.ownsRow 0 e t.sz v xs.length css.flatten∧(fr=true → ∀ b,v.ownBlock=some b → ∀ o,o < xs.length*t.sz→Pr b o)
 | .old e t xs => ∃ v,γ r=some (.row e t v)∧RK L (.slice e t) xs [v]
 | .gone e t n => ∃ A c,γ r=some (.row e t (.slice A n c))
 | .keepF g caps => ∃ b vs,γ r=some (.box b .fn)∧L b 0 (.func (.func g) #[] vs.toArray)∧vG L γ caps vs
 | .rowP e l => ∃ b vs,γ r=some (.row e .pt (.slice (some ⟨b,0,none⟩) l.length l.length))∧vG L γ l vs ∧ ∀ j v,vs[j]? = some v→L b j v
def fX:aP→Nat→Prop
 | .row _ t xs true,o=>o < xs.length*t.sz
 | _,_=>False
structure bn (w0:World) (X:Nat→Prop) (Pr0:Nat→Nat→Prop) (sl:List SV) (get:Nat→Option aP) (γ:Nat→Option G) (Pr:Nat→Nat→Prop) (a:Act) (w:World):Prop where
 slots:b8 (Ln Pr w) γ sl a.tmps.toList
 defers:a.defers=[]
 gs : ∀ r e t v,γ r=some (.row e t v) → ∃ A n c,v = .slice A n c
 wfs : ∀ r b t,γ r=some (.box b t)→cJ false t=true
 res : ∀ r x,get r=some x→gC (Ln Pr w) Pr γ w r x
 apart : ∀ r r' x x' b,get r=some x→get r'=some x'→r≠r'→bj γ r x=some b→bj γ r' x'≠some b
 loose : ∀ r x b,get r=some x→bj γ r x=some b → ∀ o,Pr b o→fX x o
 where_ : ∀ r x b,get r=some x→bj γ r x=some b→X b∨w0.heap.size≤b
 frame : ∀ k,k < w0.heap.size → ¬X k→w.heap[k]? = w0.heap[k]?
 size:w0.heap.size≤w.heap.size
 os:w.os=w0.os
 tape:w.tape=w0.tape
 output:w.output=w0.output
 prIn : ∀ b o,Pr b o→b < w.heap.size
 prOld : ∀ b,b < w0.heap.size → ¬X b → ∀ o,Pr b o→Pr0 b o
 pr0 : ∀ b o v,Ln Pr0 w0 b o v→Ln Pr w b o v
theorem uh : ∀(l:List SV) (n:Nat),eW l n=(l[n]?).getD .undef
 | [],0=>rfl
 | [],n+1=>by simp[eW]
 | x :: l,0=>rfl
 | x :: l,n+1=>by simp[eW,uh l n]
theorem NM {L:Lk} {γ:Nat→Option G} : ∀ v:Value,RV L γ (Ck v) v:=by
 intro v
 unfold Ck
 split
 ·exact RV.val (t := .int _) (cs:=[.int _ _]) rfl
 ·exact RV.val (t := .bool) (cs:=[.bool _]) rfl
 ·exact RV.val (t := .str) (cs:=[.string _]) rfl
 ·exact RV.nilS
 ·exact RV.undef
theorem Fc {L:Lk} {γ:Nat→Option G} {sl:List SV} {a:Act} (h:b8 L γ sl a.tmps.toList) : ∀ x:Operand,RV L γ (ev sl x) (a.eval x)
 | .tmp t=>by
  simp only[ev,uh,Act.eval]
  cases hs:sl[t]? with
  | none=>exact RV.undef
  | some v =>
   obtain⟨u,h1,h2⟩:=sP h hs
   have:a.tmps.getD t undef=u:=by
    rw[Array.getD_eq_getD_getElem?,←Y6,h1]
    rfl
   rw[this]
   exact h2
 | .const v=>NM v
 | .func f=>by
  have:=RV.fn (L:=L) (γ:=γ) (g:=f) b8.nil
  exact this
 | .global _=>RV.undef
theorem LC {L:Lk} {γ:Nat→Option G} {sl:List SV} {a:Act} (h:b8 L γ sl a.tmps.toList) : ∀ xs:List Operand,b8 L γ (xs.map (ev sl)) (xs.map a.eval)
 | [] => .nil
 | x :: xs => .cons (Fc h x) (LC h xs)
theorem IT {L:Lk} {γ:Nat→Option G} : ∀ {l:List SV} {us:List Value},b8 L γ l us → ∀ {d:Nat} {v:SV} {u:Value},RV L γ v u→b8 L γ (cH l d v) (us.set d u)
 | _,_,.nil,_,_,_,_ => .nil
 | _,_,.cons _ k,0,_,_,hv => .cons hv k
 | _,_,.cons h k,d+1,_,_,hv => .cons h (IT k hv)
section
variable {P:Program} {o:Oper} {a:Act} {w w':World} {next:Act→World→Prop} {Q:Exit→Act→World→Prop} {v:Value} {s:Sem Value}
theorem Qr (ho:execOp a.eval o=(do pure (.value (←s)))) (hs:s.run P w = .ok v w') (h:next (a.put o.dst v) w'):Oper.wp P o a w next Q:=by
 unfold Oper.wp
 rw[ho]
 simp only[U5,hs,T6,V0]
 exact h
end
def zt (P:Program) (w0:World) (X:Nat→Prop) (Pr0:Nat→Nat→Prop) (o:Oper) (sl:List SV) (get:Nat→Option aP) (γ:Nat→Option G) (Pr:Nat→Nat→Prop) (r0:Nat) (a:Act) (w:World) (v:SV) (get':Nat→Option aP):Prop :=
 ∀ next Q,(∀ v' γ' Pr' w',RV (Ln Pr' w') γ' v v'→bn w0 X Pr0 sl get' γ' Pr' a w'→(∀ r,¬(r0≤r∧r < r0+64)→γ' r=γ r)→next (a.put o.dst v') w')→Oper.wp P o a w next Q
section
variable {P:Program} {w0:World} {X:Nat→Prop} {Pr0:Nat→Nat→Prop} {o:Oper} {sl:List SV} {get:Nat→Option aP} {γ:Nat→Option G} {Pr:Nat→Nat→Prop} {r0:Nat} {a:Act} {w:World}
theorem bd {s:Sem Value} {u:Value} {v:SV} (hI:bn w0 X Pr0 sl get γ Pr a w) (ho:execOp a.eval o=(do pure (.value (←s)))) (hs:s.run P w = .ok u w) (hv:RV (Ln Pr w) γ v u) :
  zt P w0 X Pr0 o sl get γ Pr r0 a w v get:=fun next Q h=>Qr ho hs (h u γ Pr w hv hI (fun _ _=>rfl))
theorem kU {get':Nat→Option aP} {Pr':Nat→Nat→Prop} {u:Value} {v:SV} (hI:bn w0 X Pr0 sl get' γ Pr' a w) (ho:(execOp a.eval o).run P w = .ok (.value u) w) (hv:RV (Ln Pr' w) γ v u) :
  zt P w0 X Pr0 o sl get γ Pr r0 a w v get':=fun next Q h=>by
 unfold Oper.wp
 rw[ho]
 exact h u γ Pr' w hv hI (fun _ _=>rfl)
theorem gq {get':Nat→Option aP} {γ':Nat→Option G} {Pr':Nat→Nat→Prop} {w':World} {u:Value} {v:SV} (hI:bn w0 X Pr0 sl get' γ' Pr' a w') (ho:(execOp a.eval o).run P w = .ok (.value u) w') (hv:RV (Ln Pr' w') γ' v u)
  (hγ : ∀ r,¬(r0≤r∧r < r0+64)→γ' r=γ r):zt P w0 X Pr0 o sl get γ Pr r0 a w v get':=fun next Q h=>by
 unfold Oper.wp
 rw[ho]
 exact h u γ' Pr' w' hv hI hγ
end
end Go.Proofs.YtfffplonjaigkaaGreatDoor.Abs
set_option linter.unusedSectionVars false
namespace Go.Proofs.YtfffplonjaigkaaGreatDoor.Abs
open Go
abbrev cd:SV→Up→Option (SV×Up):=fun v u=>some (v,u)
section
variable {R:Type} {E:ce} {call:(I:ap)→List SV→aB→Option (I.sh.den×I.bx.den)} {K:SV→Up→Option R}
theorem zu {op:BinOp} {k:IntKind} {a b:Int}:lH op k a b K=(lH op k a b cd).bind fun p=>K p.1 p.2:=by
 cases op <;> simp only[lH] <;> ((repeat' split) <;> first | rfl | (simp_all; done))
theorem NN {op:BinOp} {a b:S0}:sI op a b K=(sI op a b cd).bind fun p=>K p.1 p.2:=by
 cases op <;> simp only[sI] <;> ((repeat' split) <;> first | rfl | (simp_all; done))
theorem Fm {op:BinOp} {T:TypeId} {x y:SV}:sJ E op T x y K=(sJ E op T x y cd).bind fun p=>K p.1 p.2:=by
 unfold sJ
 split
 ·split
  ·exact zu
  ·exact zu
  ·split
   ·exact zu
   ·rfl
 ·exact NN
 ·split <;> rfl
 ·split
  ·split <;> rfl
  ·rfl
theorem Fo {op:BinOp} {T:TypeId} {x:SV}:sK E op T x K=(sK E op T x cd).bind fun p=>K p.1 p.2:=by
 unfold sK
 split
 ·split <;> rfl
 ·rfl
theorem NO {s:S0} {lo hi:Option Int}:sL s lo hi K=(sL s lo hi cd).bind fun p=>K p.1 p.2:=by
 cases lo <;> cases hi <;> simp only[sL] <;> ((repeat' split) <;> first | rfl | (simp_all; done))
theorem ll {e:TypeId} {t:Ty} {xs:List t.den} {lo hi:Option Int} {u:Up}:iR e t xs lo hi u K=(iR e t xs lo hi u cd).bind fun p=>K p.1 p.2:=by
 cases lo <;> cases hi <;> simp only[iR] <;> ((repeat' split) <;> first | rfl | (simp_all; done))
theorem ie {c:Prop} [Decidable c] {x:Option R} {y:Option (SV×Up)} (h:x=y.bind fun p=>K p.1 p.2):(if c then x else none)=(if c then y else none).bind fun p=>K p.1 p.2:=by
 split
 ·exact h
 ·rfl
theorem Dr {ty:Ty} {lo hi:Option SV} {x:SV} {res:aB} {r0:Nat}:pn ty lo hi x res r0 K=(pn ty lo hi x res r0 cd).bind fun p=>K p.1 p.2:=by
 unfold pn
 split
 ·exact NO
 ·split
  ·exact ie (ie (ie rfl))
  ·exact ie ll
  ·exact ie ll
  ·rfl
 ·split
  ·exact ll
  ·rfl
 ·rfl
theorem Ds {ty:Ty} {lo hi:Option SV} {x:SV} {res:aB}:po ty lo hi x res K=(po ty lo hi x res cd).bind fun p=>K p.1 p.2:=by
 unfold po
 split
 ·split
  ·exact ll
  ·rfl
 ·rfl
theorem Fp {lo hi:Option Operand} {ty:Ty} {x:SV} {is:List SV} {res:aB}:sM lo hi ty x is res K=(sM lo hi ty x is res cd).bind fun p=>K p.1 p.2:=by
 unfold sM
 split
 ·split
  ·exact ie (ie (ie rfl))
  ·rfl
 ·rfl
theorem LD {argTypes:Array TypeId} {v:SV} {res:aB}:sO E argTypes v res K=(sO E argTypes v res cd).bind fun p=>K p.1 p.2:=by
 unfold sO
 split
 ·split
  ·exact ie rfl
  ·rfl
 ·rfl
theorem Ps {argTypes:Array TypeId} {v:SV} {res:aB}:AJ E argTypes v res K=(AJ E argTypes v res cd).bind fun p=>K p.1 p.2:=by
 unfold AJ
 split
 ·rfl
 ·split
  ·exact ie rfl
  ·rfl
 ·split
  ·rfl
  ·split
   ·split
    ·exact ie rfl
    ·exact ie rfl
    ·rfl
   ·rfl
 ·rfl
theorem JX {argTypes:Array TypeId} {s x:SV} {res:aB} {r0:Nat}:mG E argTypes s x res r0 K=(mG E argTypes s x res r0 cd).bind fun p=>K p.1 p.2:=by
 unfold mG
 split
 ·split
  ·split
   ·exact ie rfl
   ·rfl
  ·rfl
 ·rfl
theorem Fq {f:Int→Int→Int} {v:SV} {l:List SV}:pH f v l K=(pH f v l cd).bind fun p=>K p.1 p.2:=by
 unfold pH
 split
 ·split <;> rfl
 ·rfl
theorem AK {b:Builtin} {argTypes:Array TypeId} {T:TypeId} {args:List SV} {res:aB} {r0:Nat}:mH E b argTypes T args res r0 K=(mH E b argTypes T args res r0 cd).bind fun p=>K p.1 p.2:=by
 unfold mH
 split
 ·split
  ·exact Ps
  ·rfl
 ·split
  ·exact JX
  ·rfl
 ·split
  ·exact Fq
  ·rfl
 ·split
  ·exact Fq
  ·rfl
 ·split
  ·exact LD
  ·rfl
 ·rfl
theorem Dt {T:TypeId} {n:Nat} {ps:Array (Nat×Operand)} {vs:List SV} {res:aB} {r0:Nat}:pq E T n ps vs res r0 K=(pq E T n ps vs res r0 cd).bind fun p=>K p.1 p.2:=by
 unfold pq
 split
 ·split
  ·rfl
  ·rfl
 ·split
  ·split
   ·rfl
   ·rfl
  ·rfl
theorem Du {g key:Nat} {args:List SV} {res:aB} {r0:Nat}:eO E call g key args res r0 K=(eO E call g key args res r0 cd).bind fun p=>K p.1 p.2:=by
 unfold eO
 split
 ·rfl
 ·split
  ·rfl
  ·split
   ·rfl
   ·dsimp only
    split
    ·generalize call _ _ _=z0
     cases z0 with
     | none=>rfl
     | some z =>
      simp only[S1]
      split <;> rfl
    ·rfl
theorem Fs {g:Nat} {args:List SV} {res:aB} {r0:Nat}:ga E call g args res r0 K=(ga E call g args res r0 cd).bind fun p=>K p.1 p.2:=by
 unfold ga
 split
 ·exact Du
 ·rename_i s hs
  cases s.dec res args with
  | none=>rfl
  | some b =>
   simp only[S1]
   split <;> exact Du
theorem Ft {o:Oper} {vs:List SV} {res:aB} {r0:Nat}:cf E call o vs res r0 K=(cf E call o vs res r0 cd).bind fun p=>K p.1 p.2:=by
 obtain⟨dst,op,ty,pos,after,guard⟩:=o
 cases op
 case makeFunc fn first captured=>cases fn <;> rcases vs with _ | ⟨v1,_ | ⟨v2,_ | ⟨v3,_ | ⟨v4,vs⟩⟩⟩⟩ <;> first | rfl | (unfold cf; dsimp only; repeat' (first | rfl | exact Fm | exact Fo | exact AK | exact Dr | exact Ds | exact Dt | exact Fp | exact Fs | exact ll | refine ie ?_ | split))
 all_goals
  rcases vs with _ | ⟨v1,_ | ⟨v2,_ | ⟨v3,_ | ⟨v4,vs⟩⟩⟩⟩ <;> first | rfl | (unfold cf; dsimp only; repeat' (first | rfl | exact Fm | exact Fo | exact AK | exact Dr | exact Ds | exact Dt | exact Fp | exact Fs | exact ll | refine ie ?_ | split))
theorem wv {o:Oper} {vs:List SV} {res:aB} {r0:Nat} {z:R} (h:cf E call o vs res r0 K=some z) : ∃ v u,cf E call o vs res r0 cd=some (v,u)∧K v u=some z:=by
 rw[Ft,S7] at h
 obtain⟨⟨v,u⟩,h1,h2⟩:=h
 exact⟨v,u,h1,h2⟩
end
open Go Go.RowKit
def bo (get:Nat→Option aP):Up→Nat→Option aP
 | []=>get
 | (r,x) :: u=>bo (fun s=>if s=r then x else get s) u
theorem dr {L:Lk} {γ:Nat→Option G} {k:IntKind} {n:Int}:RV L γ (.val (.int k) n) (.int k n):=RV.val (t := .int k) (cs:=[.int k n]) rfl
theorem fC {L:Lk} {γ:Nat→Option G} {b:Bool}:RV L γ (.val .bool b) (.bool b):=RV.val (t := .bool) (cs:=[.bool b]) rfl
theorem mJ {L:Lk} {γ:Nat→Option G} {s:S0}:RV L γ (.val .str s) (.string s):=RV.val (t := .str) (cs:=[.string s]) rfl
theorem dd {L:Lk} {γ:Nat→Option G} {k:IntKind} {n:Int} {u:Value} (h:RV L γ (.val (.int k) n) u):u = .int k n:=by
 cases h with
 | val h=>rw[show _=[Value.int k n] from h]; rfl
theorem fD {L:Lk} {γ:Nat→Option G} {b:Bool} {u:Value} (h:RV L γ (.val .bool b) u):u = .bool b:=by
 cases h with
 | val h=>rw[show _=[Value.bool b] from h]; rfl
theorem dt {L:Lk} {γ:Nat→Option G} {s:S0} {u:Value} (h:RV L γ (.val .str s) u):u = .string s:=by
 cases h with
 | val h=>rw[show _=[Value.string s] from h]; rfl
section
variable {P:Program} {w:World} {L:Lk} {γ:Nat→Option G} {v:SV} {u:Up}
theorem LF {op:BinOp} {k:IntKind} {a b:Int} {T:TypeId} (h:lH op k a b cd=some (v,u)):u=[] ∧ ∃ x,(binOp op T (.int k a) (.int k b)).run P w = .ok x w∧RV L γ v x:=by
 cases op <;> simp only[lH,cd] at h
 case quo =>
  split at h
  ·cases h
  ·cases h
   exact⟨rfl,_,by simp[go_sem,Op.intDiv, *],dr⟩
 case rem =>
  split at h
  ·cases h
  ·cases h
   exact⟨rfl,_,by simp[go_sem,Op.intDiv, *],dr⟩
 case shl =>
  split at h
  ·cases h
  ·cases h
   exact⟨rfl,_,by rw[binOp_shl]; simp[Op.shift, *],dr⟩
 case shr =>
  split at h
  ·cases h
  ·cases h
   exact⟨rfl,_,by rw[binOp_shr]; simp[Op.shift, *],dr⟩
 all_goals
  cases h
  refine⟨rfl,_,?_,by first | exact dr | exact fC⟩
  simp[go_sem,Op.intArith] <;> rfl
theorem Fu {op:BinOp} {k k':IntKind} {a b:Int} {T:TypeId} (ho:op = .shl∨op = .shr) (h:lH op k a b cd=some (v,u)):u=[] ∧ ∃ x,(binOp op T (.int k a) (.int k' b)).run P w = .ok x w∧RV L γ v x:=by
 rcases ho with rfl | rfl <;> simp only[lH,cd] at h <;> split at h <;> cases h
 ·exact⟨rfl,_,by rw[binOp_shl]; simp[Op.shift, *],dr⟩
 ·exact⟨rfl,_,by rw[binOp_shr]; simp[Op.shift, *],dr⟩
theorem LG {op:BinOp} {a b:S0} {T:TypeId} (h:sI op a b cd=some (v,u)):u=[] ∧ ∃ x,(binOp op T (.string a) (.string b)).run P w = .ok x w∧RV L γ v x:=by
 cases op <;> simp only[sI,cd] at h <;> try (cases h; done)
 case add =>
  split at h
  ·rename_i hs
   cases h
   refine⟨rfl,_,?_,mJ⟩
   rw[binOp_string_add]
   have : ¬((a.size+b.size:Nat):Int) > IntKind.i64.max:=by simp[IntKind.max,IntKind.signed,IntKind.bits]; omega
   simp only[Op.stringOp,S4 this,V0]
  ·cases h
 all_goals
  cases h
  exact⟨rfl,_,by simp[go_sem],fC⟩
end
end Go.Proofs.YtfffplonjaigkaaGreatDoor.Abs
namespace Go.Proofs.YtfffplonjaigkaaGreatDoor.Abs
open Go Go.RowKit
def dw (c cs:List Value) (o:Nat):Prop := ∀ j u,c[j]? = some u→cs[o+j]? = some u
theorem dw.refl (c:List Value):dw c c 0:=fun j u h=>by rwa[Y5]
theorem dw.trans {a b c:List Value} {o o':Nat} (h:dw a b o) (k:dw b c o'):dw a c (o'+o):=fun j u hj=>by
 have:=k _ _ (h j u hj)
 rwa[←Z8] at this
theorem dw.left (c d:List Value):dw c (c++d) 0:=fun j u h=>by
 have:j < c.length:=(U0.1 h).1
 rw[Y5,X8 this]
 exact h
theorem dw.right (c d:List Value):dw d (c++d) c.length:=fun j u h=>by
 rw[Z3 (by omega)]
 simpa using h
section
variable {L:Lk} {γ:Nat→Option G}
theorem xY : ∀ {t:Ty} {x:t.den} {f:Nat} {v:SV},j9 t x f=some v → ∃ s y o,v = .val s y∧cw t f=some (o,s) ∧ ∀ cs,RK L t x cs → ∃ c,RK L s y c∧dw c cs o
 | .pair a b,x,0,v,h=>by
  cases h
  refine⟨a,x.1,0,rfl,rfl,fun cs hr => ?_⟩
  obtain⟨c,d,rfl,h1,h2⟩:=hr
  exact⟨c,h1,dw.left c d⟩
 | .pair a b,x,n+1,v,h=>by
  obtain⟨s,y,o,hv,ho,hc⟩:=xY (t:=b) (x:=x.2) (f:=n) h
  refine⟨s,y,a.sz+o,hv,by simp[cw,ho],fun cs hr => ?_⟩
  obtain⟨c,d,rfl,h1,h2⟩:=hr
  obtain⟨c',h3,h4⟩:=hc d h2
  refine⟨c',h3,?_⟩
  have:=h4.trans (dw.right c d)
  rwa[dv h1] at this
 | .int _,_,_,_,h=>by simp[j9] at h
 | .bool,_,_,_,h=>by simp[j9] at h
 | .err,_,_,_,h=>by simp[j9] at h
 | .fn,_,_,_,h=>by simp[j9] at h
 | .pt,_,_,_,h=>by simp[j9] at h
 | .bp _,_,_,_,h=>by simp[j9] at h
 | .str,_,_,_,h=>by simp[j9] at h
 | .unit,_,_,_,h=>by simp[j9] at h
 | .agg _,_,_,_,h=>by simp[j9] at h
 | .slice _ _,_,_,_,h=>by simp[j9] at h
theorem Co : ∀ {t:Ty} {l:List SV} {cs:List Value},eG L γ t l cs → ∀ {f:Nat} {v:SV},l[f]? = some v → ∃ s o c,cw t f=some (o,s)∧RT L γ s v c∧dw c cs o
 | _,_,_,.nil,f,v,h=>by simp at h
 | _,_,_,.cons (a:=a) (c:=c) (d:=d) hv k,0,v,h=>by
  simp at h
  subst h
  exact⟨a,0,c,rfl,hv,dw.left c d⟩
 | _,_,_,.cons (a:=a) (c:=c) (d:=d) hv k,f+1,v,h=>by
  obtain⟨s,o,c',h1,h2,h3⟩:=Co k (f:=f) (v:=v) (by simpa using h)
  refine⟨s,a.sz+o,c',by simp[cw,h1],h2,?_⟩
  have:=h3.trans (dw.right c d)
  rwa[d9 hv] at this
def JY:Ty→Prop
 | .pair _ b=>JY b
 | .unit=>True
 | _=>False
theorem yK : ∀ {t:Ty} {x:t.den} {cs:List Value},RK L t x cs→JY t→eG L γ t (fieldsOf t x) cs
 | .pair a b,x,cs,h,hf=>by
  obtain⟨c,d,rfl,h1,h2⟩:=h
  exact .cons (.val h1) (yK h2 hf)
 | .unit,x,cs,h,_=>by
  rw[show cs=[] from h]
  exact .nil
 | .int _,_,_,_,hf=>hf.elim
 | .bool,_,_,_,hf=>hf.elim
 | .err,_,_,_,hf=>hf.elim
 | .fn,_,_,_,hf=>hf.elim
 | .pt,_,_,_,hf=>hf.elim
 | .bp _,_,_,_,hf=>hf.elim
 | .str,_,_,_,hf=>hf.elim
 | .agg _,_,_,_,hf=>hf.elim
 | .slice _ _,_,_,_,hf=>hf.elim
theorem Fv {t:Ty} {v u:SV} {f:Nat} {cs:List Value} (h:RT L γ t v cs) (hg:uc v f=some u) : ∃ t' s o c,t = .agg t'∧cw t' f=some (o,s)∧RT L γ s u c∧dw c cs o:=by
 cases h with
 | @val t x cs hk =>
  cases t with
  | agg t' =>
   obtain⟨s,y,o,rfl,ho,hc⟩:=xY (L:=L) (show j9 t' x f=some u from hg)
   obtain⟨c,h1,h2⟩:=hc cs hk
   exact⟨t',s,o,c,rfl,ho,.val h1,h2⟩
  | _=>simp[uc] at hg
 | @strct t' l cs hk =>
  obtain⟨s,o,c,h1,h2,h3⟩:=Co hk (show l[f]? = some u from hg)
  exact⟨t',s,o,c,rfl,h1,h2,h3⟩
 | nilS=>simp[uc] at hg
 | row _=>simp[uc] at hg
theorem Dv : ∀ {p:List Nat} {t:Ty} {v u:SV} {cs:List Value},RT L γ t v cs→wo p v=some u → ∃ s o c,dj t p=some (o,s)∧RT L γ s u c∧dw c cs o
 | [],t,v,u,cs,h,hg=>by
  cases hg
  exact⟨t,0,cs,by cases t <;> rfl,h,dw.refl cs⟩
 | f :: p,t,v,u,cs,h,hg=>by
  simp only[wo,S7] at hg
  obtain⟨z,hz,hp⟩:=hg
  obtain⟨t',s,o,c,rfl,h1,h2,h3⟩:=Fv h hz
  obtain⟨s',o',c',h4,h5,h6⟩:=Dv h2 hp
  exact⟨s',o+o',c',by simp[dj,h1,h4],h5,h6.trans h3⟩
theorem IU : ∀ {p:List Nat} {t:Ty} {x:t.den} {u:SV},kS p t x=some u → ∃ s y o,u = .val s y∧dj t p=some (o,s) ∧ ∀ cs,RK L t x cs → ∃ c,RK L s y c∧dw c cs o
 | [],t,x,u,h=>by
  cases h
  exact⟨t,x,0,rfl,by cases t <;> rfl,fun cs hr=>⟨cs,hr,dw.refl cs⟩⟩
 | f :: p,.agg t,x,u,h=>by
  simp only[kS] at h
  split at h
  ·rename_i s y hg
   obtain⟨s1,y1,o,he,ho,hc⟩:=xY (L:=L) hg
   cases he
   obtain⟨s',y',o',hu,ho',hc'⟩:=IU h
   refine⟨s',y',o+o',hu,by simp[dj,ho,ho'],fun cs hr => ?_⟩
   obtain⟨c,h1,h2⟩:=hc cs hr
   obtain⟨c',h3,h4⟩:=hc' c h1
   exact⟨c',h3,h4.trans h2⟩
  ·cases h
 | f :: p,.int _,_,_,h=>by simp[kS] at h
 | f :: p,.bool,_,_,h=>by simp[kS] at h
 | f :: p,.err,_,_,h=>by simp[kS] at h
 | f :: p,.fn,_,_,h=>by simp[kS] at h
 | f :: p,.pt,_,_,h=>by simp[kS] at h
 | f :: p,.bp _,_,_,h=>by simp[kS] at h
 | f :: p,.str,_,_,h=>by simp[kS] at h
 | f :: p,.unit,_,_,h=>by simp[kS] at h
 | f :: p,.pair _ _,_,_,h=>by simp[kS] at h
 | f :: p,.slice _ _,_,_,h=>by simp[kS] at h
theorem JZ {t:Ty} {v:SV} {cs:List Value} (h:RT L γ t v cs):RV L γ v (mk t cs):=by
 cases h with
 | val h=>exact .val h
 | nilS=>exact .nilS
 | row h=>exact .row h
 | strct h=>exact .strct h
theorem zv : ∀ {t:Ty} {f o:Nat} {s:Ty},cw t f=some (o,s)→o+s.sz≤t.sz
 | .pair a b,0,o,s,h=>by
  cases h
  simp[Ty.sz]
 | .pair a b,n+1,o,s,h=>by
  simp only[cw,Y8] at h
  obtain⟨q,hq,he⟩:=h
  cases he
  have:=zv hq
  simp only[Ty.sz]
  omega
 | .int _,_,_,_,h=>by simp[cw] at h
 | .bool,_,_,_,h=>by simp[cw] at h
 | .err,_,_,_,h=>by simp[cw] at h
 | .fn,_,_,_,h=>by simp[cw] at h
 | .pt,_,_,_,h=>by simp[cw] at h
 | .bp _,_,_,_,h=>by simp[cw] at h
 | .str,_,_,_,h=>by simp[cw] at h
 | .unit,_,_,_,h=>by simp[cw] at h
 | .agg _,_,_,_,h=>by simp[cw] at h
 | .slice _ _,_,_,_,h=>by simp[cw] at h
theorem ww : ∀ {t:Ty} {p:List Nat} {f o o':Nat} {s s' u:Ty},dj t p=some (o,s)→s = .agg u→cw u f=some (o',s')→dj t (p++[f])=some (o+o',s')
 | t,[],f,o,o',s,s',u,h,hs,hf=>by
  have:(0,t)=(o,s):=by cases t <;> simpa[dj] using h
  cases this
  subst hs
  show(cw u f).bind _=_
  rw[hf]
  simp[dj]
 | .agg t,g :: p,f,o,o',s,s',u,h,hs,hf=>by
  simp only[dj,S7,Y8] at h
  obtain⟨q,hq,q',hq',he⟩:=h
  cases he
  have:=ww hq' hs hf
  simp only[List.cons_append,dj,hq,S1,this,bc_]
  simp[Z8]
 | .int _,_ :: _,_,_,_,_,_,_,h,_,_=>by simp[dj] at h
 | .bool,_ :: _,_,_,_,_,_,_,h,_,_=>by simp[dj] at h
 | .err,_ :: _,_,_,_,_,_,_,h,_,_=>by simp[dj] at h
 | .fn,_ :: _,_,_,_,_,_,_,h,_,_=>by simp[dj] at h
 | .pt,_ :: _,_,_,_,_,_,_,h,_,_=>by simp[dj] at h
 | .bp _,_ :: _,_,_,_,_,_,_,h,_,_=>by simp[dj] at h
 | .str,_ :: _,_,_,_,_,_,_,h,_,_=>by simp[dj] at h
 | .unit,_ :: _,_,_,_,_,_,_,h,_,_=>by simp[dj] at h
 | .pair _ _,_ :: _,_,_,_,_,_,_,h,_,_=>by simp[dj] at h
 | .slice _ _,_ :: _,_,_,_,_,_,_,h,_,_=>by simp[dj] at h
end
section
variable {P:Program}
theorem sR : ∀ {fs:List Field} {t:Ty} {o:Nat},IR P fs t o → ∀ {f o':Nat} {s:Ty},cw t f=some (o',s) → ∃ fl,fs[f]? = some fl∧fl.offset=o+o'∧0 < s.sz∧eb P fl.type s
 | [],t,o,h,f,o',s,hf=>by
  cases t <;> first | exact h.elim | simp[cw] at hf
 | fl :: fs,.pair a b,o,h,0,o',s,hf=>by
  cases hf
  exact⟨fl,rfl,h.1,h.2.2.1,h.2.2.2.1⟩
 | fl :: fs,.pair a b,o,h,f+1,o',s,hf=>by
  simp only[cw,Y8] at hf
  obtain⟨q,hq,he⟩:=hf
  cases he
  obtain⟨g,h1,h2,h3⟩:=sR h.2.2.2.2 hq
  exact⟨g,by simpa using h1,by omega,h3⟩
 | fl :: fs,.int _,_,h,_,_,_,_=>h.elim
 | fl :: fs,.bool,_,h,_,_,_,_=>h.elim
 | fl :: fs,.err,_,h,_,_,_,_=>h.elim
 | fl :: fs,.str,_,h,_,_,_,_=>h.elim
 | fl :: fs,.unit,_,h,_,_,_,_=>h.elim
 | fl :: fs,.agg _,_,h,_,_,_,_=>h.elim
 | fl :: fs,.slice _ _,_,h,_,_,_,_=>h.elim
theorem eb.isAgg {T:TypeId} {t:Ty} (h:eb P T t) (w:World):(isAgg T).run P w = .ok (lJ t) w:=by
 obtain⟨d,hd,ha⟩:=h.agg
 rw[←ha]
 cases d <;> simp[Go.isAgg,Go.underlying,hd,NL]
theorem eb.sizeOf {T:TypeId} {t:Ty} (h:eb P T t) (w:World):(sizeOf T).run P w = .ok t.sz w:=by
 obtain⟨i,hi,hs,_⟩:=h.info
 simp[Go.sizeOf,typeInfo,hi,hs]
theorem wx {c cs:List Value} {o:Nat} (h:dw c cs o):cs.toArray.extract o (o+c.length)=c.toArray:=by
 apply ab_.1
 rw[Array.toList_extract,List.extract_eq_take_drop]
 simp only[cv_]
 apply cj_
 intro j
 rw[bz_,List.getElem?_drop]
 by_cases hj:j < c.length
 ·rw[S6 hj]
  have:=h j _ (T9 hj)
  simp[this]
 ·rw[S4 hj]
  simp[List.getElem?_eq_none (show c.length≤j by omega)]
theorem Cp {T:TypeId} {s:Ty} {c cs:List Value} {o:Nat} (h:eb P T s) (hl:c.length=s.sz) (hs:dw c cs o) (w:World):(part T cs.toArray o).run P w = .ok (mk s c) w:=by
 simp only[part,U5,h.isAgg,T6]
 rcases h.one with h1 | ⟨u,rfl⟩
 ·by_cases ha:lJ s=true
  ·obtain⟨u,rfl⟩ : ∃ u,s = .agg u:=by cases s <;> simp_all [lJ]
   simp only[lJ,V4,U5,h.sizeOf,T6,V0]
   rw[←hl,wx hs]
   rfl
  ·rw[S4 ha]
   obtain⟨x,rfl⟩:=bx_.1 (hl.trans h1)
   have:=hs 0 x rfl
   simp only[au_] at this
   simp only[List.getElem?_toArray,this,V0]
   cases s <;> first | rfl | (simp[lJ] at ha)
 ·simp only[lJ,V4,U5,h.sizeOf,T6,V0]
  rw[←hl,wx hs]
  rfl
end
end Go.Proofs.YtfffplonjaigkaaGreatDoor.Abs
namespace Go.Proofs.YtfffplonjaigkaaGreatDoor.Abs
open Go Go.RowKit
theorem jk {L L':Lk} (hL : ∀ b o v,L b o v→L' b o v) {t:Ty} {xs:List t.den} {css:List (List Value)} (h:hJ L t xs css):hJ L' t xs css :=
 ⟨h.1,fun i hi hi'=>eP hL (h.2 i hi hi')⟩
theorem mK {γ γ':Nat→Option G} {r:Nat} {x:aP} (h:γ' r=γ r):bj γ' r x=bj γ r x:=by
 cases x <;> simp only[bj,h]
theorem gC.lt {L:Lk} {Pr:Nat→Nat→Prop} {γ:Nat→Option G} {w:World} {r:Nat} {x:aP} (h:gC L Pr γ w r x) {b:Nat} (hb:bj γ r x=some b):b < w.heap.size:=by
 cases x with
 | box t c =>
  obtain⟨b',arr,T,hg,hh,_⟩:=h
  simp only[bj,hg,U3] at hb
  subst hb
  exact(V8.1 hh).1
 | row e t xs fr =>
  obtain⟨v,css,hg,_,ho,_⟩:=h
  simp only[bj,hg] at hb
  exact(ho.lt b hb).2
 | old e t xs=>cases hb
 | gone e t n=>cases hb
 | keepF g caps=>cases hb
 | rowP g caps=>cases hb
theorem gC.γsome {L:Lk} {Pr:Nat→Nat→Prop} {γ:Nat→Option G} {w:World} {r:Nat} {x:aP} (h:gC L Pr γ w r x) : ∃ g,γ r=some g:=by
 cases x with
 | box t c=>obtain⟨b',arr,T,hg,_⟩:=h; exact⟨_,hg⟩
 | row e t xs fr=>obtain⟨v,css,hg,_⟩:=h; exact⟨_,hg⟩
 | old e t xs=>obtain⟨v,hg,_⟩:=h; exact⟨_,hg⟩
 | gone e t n=>obtain⟨A,c,hg⟩:=h; exact⟨_,hg⟩
 | keepF g caps=>obtain⟨b,vs,hg,_⟩:=h; exact⟨_,hg⟩
 | rowP g caps=>obtain⟨b,vs,hg,_⟩:=h; exact⟨_,hg⟩
theorem gC.kept {L L':Lk} {Pr Pr':Nat→Nat→Prop} {γ γ':Nat→Option G} {w w':World} {row:Option Nat} {r:Nat} {x:aP} (h:gC L Pr γ w r x) (hL : ∀ b o v,L b o v→L' b o v)
  (hP : ∀ b o,Pr b o→Pr' b o) (hγ : ∀ r g,γ r=some g→γ' r=some g) (hg:w.grownBy w' row) (hne : ∀ b,row=some b→bj γ r x≠some b):gC L' Pr' γ' w' r x:=by
 cases x with
 | box t c =>
  obtain⟨b,arr,T,hk,hh,hc⟩:=h
  refine⟨b,arr,T,hγ _ _ hk,?_,hc.map fun _ h=>mI hL hγ h⟩
  rw[hg.block b (V8.1 hh).1 (fun e=>hne b e.symm (by simp[bj,hk]))]
  exact hh
 | row e t xs fr =>
  obtain⟨v,css,hk,he,ho,hf⟩:=h
  refine⟨v,css,hγ _ _ hk,jk hL he,ho.kept hg ?_,fun h b hb o hoo=>hP _ _ (hf h b hb o hoo)⟩
  cases hb:v.ownBlock with
  | none=>exact .inl rfl
  | some b=>exact .inr fun e=>hne b e.symm (by simp[bj,hk,hb])
 | old e t xs =>
  obtain⟨v,hk,hr⟩:=h
  exact⟨v,hγ _ _ hk,eP hL hr⟩
 | gone e t n =>
  obtain⟨A,c,hk⟩:=h
  exact⟨A,c,hγ _ _ hk⟩
 | keepF g caps =>
  obtain⟨b,vs,hk,hc,hr⟩:=h
  exact⟨b,vs,hγ _ _ hk,hL _ _ _ hc,jj hL hγ hr⟩
 | rowP e l =>
  obtain⟨b,vs,hk,hr,hc⟩:=h
  exact⟨b,vs,hγ _ _ hk,jj hL hγ hr,fun j v hj=>hL _ _ _ (hc j v hj)⟩
section
variable {w0:World} {X:Nat→Prop} {Pr0:Nat→Nat→Prop} {sl:List SV} {get:Nat→Option aP} {γ γ':Nat→Option G} {Pr Pr':Nat→Nat→Prop} {a:Act} {w w':World}
theorem jK (hin : ∀ b o,Pr b o→b < w.heap.size) {row:Option Nat} (hg:w.grownBy w' row) (hP : ∀ b o,Pr b o→Pr' b o)
  (hcell : ∀ b o v,row=some b→Pr b o→w.cell? ⟨b,o,none⟩=some v→w'.cell? ⟨b,o,none⟩=some v) : ∀ b o v,Ln Pr w b o v→Ln Pr' w' b o v:=by
 intro b o v ⟨h1,h2⟩
 refine⟨hP _ _ h1,?_⟩
 by_cases hr:row=some b
 ·exact hcell b o v hr h1 h2
 ·rw[World.cell?_of_block (hg.block b (hin _ _ h1) (fun e=>hr e.symm))]
  exact h2
theorem bn.turn (hI:bn w0 X Pr0 sl get γ Pr a w) (k:Nat) (x':Option aP) (row:Option Nat) (hg:w.grownBy w' row) (hγ : ∀ r g,γ r=some g→γ' r=some g) (hγk : ∀ r,r≠k→γ' r=γ r)
  (hgs : ∀ e t v,γ' k=some (.row e t v) → ∃ A n c,v = .slice A n c) (hwf : ∀ b t,γ' k=some (.box b t)→cJ false t=true)
  (hrow : ∀ b,row=some b→(X b∨w0.heap.size≤b) ∧ ∀ r x,r≠k→get r=some x→bj γ r x≠some b)
  (hP : ∀ b o,Pr b o→Pr' b o) (hP' : ∀ b o,Pr' b o→Pr b o ∨ ∃ x,x'=some x∧bj γ' k x=some b∧fX x o)
  (hcell : ∀ b o v,row=some b→Pr b o→w.cell? ⟨b,o,none⟩=some v→w'.cell? ⟨b,o,none⟩=some v)
  (hres : ∀ x,x'=some x→gC (Ln Pr' w') Pr' γ' w' k x)
  (hblk : ∀ x b,x'=some x→bj γ' k x=some b→(X b∨w0.heap.size≤b)∧(∀ r y,r≠k→get r=some y→bj γ r y≠some b) ∧ ∀ o,Pr b o→fX x o) :
  bn w0 X Pr0 sl (fun s=>if s=k then x' else get s) γ' Pr' a w':=by
 have hL:=jK hI.prIn hg hP hcell
 constructor
 case slots=>exact eY hL hγ hI.slots
 case defers=>exact hI.defers
 case gs =>
  intro r e t v h
  by_cases hr:r=k
  ·subst hr
   exact hgs e t v h
  ·rw[hγk r hr] at h
   exact hI.gs r e t v h
 case wfs =>
  intro r b t h
  by_cases hr:r=k
  ·subst hr
   exact hwf b t h
  ·rw[hγk r hr] at h
   exact hI.wfs r b t h
 case res =>
  intro r x h
  by_cases hk:r=k
  ·subst hk
   rw[S6 rfl] at h
   exact hres x h
  ·rw[S4 hk] at h
   exact(hI.res r x h).kept hL hP hγ hg fun b hb=>(hrow b hb).2 r x hk h
 case apart =>
  intro r r' x y b h h' hne hb
  by_cases hk:r=k
  ·subst hk
   rw[S6 rfl] at h
   rw[S4 (fun e=>hne e.symm)] at h'
   rw[mK (hγk r' (fun e=>hne e.symm))]
   exact(hblk x b h hb).2.1 r' y (fun e=>hne e.symm) h'
  ·rw[S4 hk] at h
   rw[mK (hγk r hk)] at hb
   by_cases hk':r'=k
   ·subst hk'
    rw[S6 rfl] at h'
    exact fun hb'=>(hblk y b h' hb').2.1 r x hk h hb
   ·rw[S4 hk'] at h'
    rw[mK (hγk r' hk')]
    exact hI.apart r r' x y b h h' hne hb
 case loose =>
  intro r x b h hb o ho
  by_cases hk:r=k
  ·subst hk
   rw[S6 rfl] at h
   rcases hP' b o ho with ho | ⟨x1,h1,h2,h3⟩
   ·exact(hblk x b h hb).2.2 o ho
   ·rw[h] at h1
    cases h1
    exact h3
  ·rw[S4 hk] at h
   rw[mK (hγk r hk)] at hb
   rcases hP' b o ho with ho | ⟨x1,h1,h2,h3⟩
   ·exact hI.loose r x b h hb o ho
   ·exact V2 hb ((hblk x1 b h1 h2).2.1 r x hk h)
 case where_ =>
  intro r x b h hb
  by_cases hk:r=k
  ·subst hk
   rw[S6 rfl] at h
   exact(hblk x b h hb).1
  ·rw[S4 hk] at h
   rw[mK (hγk r hk)] at hb
   exact hI.where_ r x b h hb
 case frame =>
  intro i hi hx
  rw[hg.block i (by have:=hI.size; omega) (fun e=>by
   rcases(hrow i e.symm).1 with h | h
   ·exact hx h
   ·omega)]
  exact hI.frame i hi hx
 case size=>exact W7 hI.size hg.size
 case os=>exact hg.os.trans hI.os
 case tape=>exact hg.tape.trans hI.tape
 case output=>exact hg.output.trans hI.output
 case prIn =>
  intro b o ho
  rcases hP' b o ho with ho | ⟨x1,h1,h2,h3⟩
  ·exact X1 (hI.prIn b o ho) hg.size
  ·exact(hres x1 h1).lt h2
 case prOld =>
  intro b hb hx o ho
  rcases hP' b o ho with ho | ⟨x1,h1,h2,h3⟩
  ·exact hI.prOld b hb hx o ho
  ·rcases(hblk x1 b h1 h2).1 with h | h
   ·exact V2 h hx
   ·omega
 case pr0=>exact fun b o v h=>hL _ _ _ (hI.pr0 b o v h)
theorem bn.lean1 (hI:bn w0 X Pr0 sl get γ Pr a w) {b:Nat} (S:Nat→Prop) (hb:b < w.heap.size) (hX:X b∨w0.heap.size≤b) (hno : ∀ r x,get r=some x→bj γ r x≠some b) :
  bn w0 X Pr0 sl get γ (fun b' o=>Pr b' o∨(b'=b∧S o)) a w:=by
 have hL : ∀ b' o v,Ln Pr w b' o v→Ln (fun b' o=>Pr b' o∨(b'=b∧S o)) w b' o v:=fun b' o v h=>⟨.inl h.1,h.2⟩
 refine⟨eY hL (fun _ _ h=>h) hI.slots,hI.defers,hI.gs,hI.wfs,fun r x h=>(hI.res r x h).kept hL (fun _ _ h => .inl h) (fun _ _ h=>h) (row:=none) ⟨rfl,rfl,rfl,T7 _,fun _ _ _=>rfl⟩ (fun b hb=>by cases hb),hI.apart,?_,hI.where_,hI.frame,hI.size,hI.os,hI.tape,hI.output,?_,?_,fun b' o v h=>hL _ _ _ (hI.pr0 b' o v h)⟩
 ·intro r x b' h hb' o ho
  rcases ho with ho | ⟨rfl,_⟩
  ·exact hI.loose r x b' h hb' o ho
  ·exact V2 hb' (hno r x h)
 ·intro b' o ho
  rcases ho with ho | ⟨rfl,_⟩
  ·exact hI.prIn b' o ho
  ·exact hb
 ·intro b' hb' hx o ho
  rcases ho with ho | ⟨rfl,_⟩
  ·exact hI.prOld b' hb' hx o ho
  ·rcases hX with h | h
   ·exact V2 h hx
   ·omega
theorem bn.freeze1 (hI:bn w0 X Pr0 sl get γ Pr a w) {r:Nat} {e:TypeId} {t:Ty} {xs:List t.den} {fr:Bool} (h:get r=some (.row e t xs fr)) :
  ∃ Pr',bn w0 X Pr0 sl (fun s=>if s=r then some (.row e t xs true) else get s) γ Pr' a w ∧ ∀ b o,Pr b o→Pr' b o:=by
 obtain⟨v,css,hk,he,ho,hf⟩:=hI.res r _ h
 have hb : ∀ x fr',x=aP.row e t xs fr'→bj γ r x=v.ownBlock:=fun x fr' hx=>by subst hx; simp[bj,hk]
 refine⟨fun b o=>Pr b o∨(v.ownBlock=some b∧o < xs.length*t.sz),?_,fun b o h => .inl h⟩
 refine hI.turn r _ none ⟨rfl,rfl,rfl,T7 _,fun _ _ _=>rfl⟩ (fun _ _ h=>h) (fun _ _=>rfl) (fun e t v h=>hI.gs r e t v h) (fun b t h=>hI.wfs r b t h) (fun b hb=>by cases hb) (fun b o h => .inl h) ?_ (fun b o v hb=>by cases hb) ?_ ?_
 ·intro b o ho
  rcases ho with ho | ⟨h1,h2⟩
  ·exact .inl ho
  ·exact .inr ⟨_,rfl,(hb _ true rfl).trans h1,h2⟩
 ·intro x hx
  cases hx
  exact⟨v,css,hk,jk (fun b o v h=>⟨.inl h.1,h.2⟩) he,ho,fun _ b hb o ho => .inr ⟨hb,ho⟩⟩
 ·intro x b hx hbb
  cases hx
  have hb':bj γ r (.row e t xs fr)=some b:=by rw[hb _ fr rfl,←hb _ true rfl]; exact hbb
  refine⟨hI.where_ r _ b h hb',fun r' y hne hy hyb=>hI.apart r r' _ y b h hy (fun e=>hne e.symm) hb' hyb,fun o hoo => ?_⟩
  have:=hI.loose r _ b h hb' o hoo
  cases fr with
  | true=>exact this
  | false=>exact this.elim
theorem cp {get:Nat→Option aP} : ∀ {u u':Up},bo get (u++u')=bo (bo get u) u'
 | [],u'=>rfl
 | (r,x) :: u,u'=>cp (u:=u)
def AL (res:aB) (get:Nat→Option aP):Prop := ∀ r x,ay res r=some x → ∃ y,get r=some y∧(y=x ∨ ∃ e t xs fr,x = .row e t xs fr∧y = .row e t xs true)
theorem AL.row {res:aB} (h:AL res get) {r:Nat} {e:TypeId} {t:Ty} {xs:List t.den} {fr:Bool} (hr:ay res r=some (.row e t xs fr)) : ∃ fr',get r=some (.row e t xs fr')∧(fr=true→fr'=true):=by
 obtain⟨y,hy,h | ⟨e',t',xs',fr',h1,h2⟩⟩:=h r _ hr
 ·subst h
  exact⟨fr,hy,id⟩
 ·cases h1
  subst h2
  exact⟨true,hy,fun _=>rfl⟩
theorem bn.freeze_ok (res:aB) : ∀(l:List Nat) {get:Nat→Option aP} {Pr:Nat→Nat→Prop},AL res get→bn w0 X Pr0 sl get γ Pr a w →
  ∃ Pr',bn w0 X Pr0 sl (bo get (freeze res l)) γ Pr' a w∧(∀ b o,Pr b o→Pr' b o)∧AL res (bo get (freeze res l)) ∧
   (∀ r,(∀ e t xs fr,get r≠some (.row e t xs fr))→bo get (freeze res l) r=get r) ∧
   (∀ r e t xs fr,r∈l→ay res r=some (.row e t xs fr)→bo get (freeze res l) r=some (.row e t xs true)) ∧
   (∀ r e t xs fr,get r=some (.row e t xs fr) → ∃ fr',bo get (freeze res l) r=some (.row e t xs fr')∧(fr=true→fr'=true)) ∧
   (∀ r,r ∉ l→bo get (freeze res l) r=get r)
 | [],get,Pr,hk,hI=>⟨Pr,hI,fun _ _ h=>h,hk,fun _ _=>rfl,fun _ _ _ _ _ h=>by simp at h,fun r e t xs fr h=>⟨fr,h,id⟩,fun _ _=>rfl⟩
 | r :: l,get,Pr,hk,hI=>by
  by_cases h : ∃ e t xs,ay res r=some (.row e t xs false)
  ·obtain⟨e,t,xs,h⟩:=h
   obtain⟨fr',hr,_⟩:=hk.row h
   obtain⟨Pr1,hI1,hP1⟩:=hI.freeze1 hr
   have hk1:AL res (fun s=>if s=r then some (.row e t xs true) else get s):=by
    intro s x hx
    by_cases hs:s=r
    ·subst hs
     rw[h] at hx
     cases hx
     exact⟨_,S6 rfl,.inr ⟨e,t,xs,false,rfl,rfl⟩⟩
    ·obtain⟨y,hy,hh⟩:=hk s x hx
     exact⟨y,by simp only[S4 hs]; exact hy,hh⟩
   obtain⟨Pr2,hI2,hP2,hk2,h21,h22,h23,h24⟩:=bn.freeze_ok res l hk1 hI1
   have he:freeze res (r :: l)=(r,some (.row e t xs true)) :: freeze res l:=by simp[freeze,h]
   rw[he]
   refine⟨Pr2,hI2,fun b o hh=>hP2 b o (hP1 b o hh),hk2,?_,?_,?_,?_⟩
   ·intro s hn
    have hs:s≠r:=fun hh=>hn e t xs fr' (hh ▸ hr)
    rw[show bo get ((r,some (.row e t xs true)) :: freeze res l)=bo (fun s=>if s=r then some (.row e t xs true) else get s) (freeze res l) from rfl,h21 s (fun e' t' xs' fr2=>by simp only[S4 hs]; exact hn e' t' xs' fr2)]
    simp only[S4 hs]
   ·intro s e' t' xs' fr hs hx
    rcases U7.1 hs with rfl | hs
    ·rw[h] at hx
     cases hx
     obtain⟨fr2,h4,h5⟩:=h23 s e t xs true (S6 rfl)
     rw[h5 rfl] at h4
     exact h4
    ·exact h22 s e' t' xs' fr hs hx
   ·intro s e' t' xs' fr hx
    by_cases hs:s=r
    ·subst hs
     rw[hr] at hx
     cases hx
     obtain⟨fr2,h4,h5⟩:=h23 s e t xs true (S6 rfl)
     exact⟨fr2,h4,fun _=>h5 rfl⟩
    ·exact h23 s e' t' xs' fr (by simp only[S4 hs]; exact hx)
   ·intro s hs
    rw[show bo get ((r,some (.row e t xs true)) :: freeze res l)=bo (fun s=>if s=r then some (.row e t xs true) else get s) (freeze res l) from rfl,h24 s (fun hh=>hs (T8 _ hh))]
    simp only[S4 (fun e=>hs (by simp[e]) : ¬s=r)]
  ·have he:freeze res (r :: l)=freeze res l:=by
    simp only[freeze,List.filterMap_cons]
    split
    ·rfl
    ·rename_i hh
     split at hh
     ·rename_i e t xs hx
      exact V2 ⟨e,t,xs,hx⟩ h
     ·cases hh
   obtain⟨Pr2,hI2,hP2,hk2,h21,h22,h23,h24⟩:=bn.freeze_ok res l hk hI
   rw[he]
   refine⟨Pr2,hI2,hP2,hk2,h21,?_,h23,fun s hs=>h24 s (fun hh=>hs (T8 _ hh))⟩
   intro s e' t' xs' fr hs hx
   rcases U7.1 hs with rfl | hs
   ·cases fr with
    | false=>exact V2 ⟨e',t',xs',hx⟩ h
    | true =>
     obtain⟨fr',h5,h6⟩:=hk.row hx
     obtain⟨fr2,h7,h8⟩:=h23 s e' t' xs' fr' h5
     rw[h8 (h6 rfl)] at h7
     exact h7
   ·exact h22 s e' t' xs' fr hs hx
end
end Go.Proofs.YtfffplonjaigkaaGreatDoor.Abs
namespace Go.Proofs.YtfffplonjaigkaaGreatDoor.Abs
open Go Go.RowKit
theorem iT {α:Type} : ∀ {css:List (List α)} {n:Nat},(∀ c∈css,c.length=n) → ∀ {i j:Nat} {c:List α},css[i]? = some c→j < n→css.flatten[i*n+j]? = c[j]?
 | [],n,_,i,j,c,h,_=>by simp at h
 | c0 :: css,n,hl,0,j,c,h,hj=>by
  simp at h
  subst h
  rw[ar_,Nat.zero_mul,Y5,X8 (by rw[hl _ (by simp)]; exact hj)]
 | c0 :: css,n,hl,i+1,j,c,h,hj=>by
  have h0:c0.length=n:=hl _ (by simp)
  rw[ar_,Z3 (by rw[h0,cp_]; omega),h0]
  rw[show(i+1)*n+j - n=i*n+j by rw[cp_]; omega]
  exact iT (fun c hc=>hl c (T8 _ hc)) (by simpa using h) hj
theorem hJ.lens {L:Lk} {t:Ty} {xs:List t.den} {css:List (List Value)} (h:hJ L t xs css) : ∀ c∈css,c.length=t.sz:=by
 intro c hc
 obtain⟨i,hi,rfl⟩:=Z9 hc
 exact dv (h.2 i (by rw[←h.1]; exact hi) hi)
theorem hJ.ones {L:Lk} {t:Ty} {xs:List t.den} {css:List (List Value)} (h:hJ L t xs css) : ∀ v∈css.flatten,v.oneCell'=true:=by
 intro v hv
 obtain⟨c,hc,hv⟩:=List.mem_flatten.1 hv
 obtain⟨i,hi,rfl⟩:=Z9 hc
 exact lI (h.2 i (by rw[←h.1]; exact hi) hi) v hv
theorem add_lit (b o j:Nat):(⟨b,o,none⟩:Addr).add j=⟨b,o+j,none⟩:=by unfold Addr.add; split <;> simp_all
theorem sS {Pr Pr':Nat→Nat→Prop} {γ:Nat→Option G} {w:World} {r:Nat} {e:TypeId} {t:Ty} {xs:List t.den} {fr:Bool} (h:gC (Ln Pr w) Pr γ w r (.row e t xs fr))
  (hP : ∀ b o,Pr b o→Pr' b o) (hP' : ∀ b,bj γ r (.row e t xs fr)=some b → ∀ o,o < xs.length*t.sz→Pr' b o) : ∃ v,γ r=some (.row e t v)∧RK (Ln Pr' w) (.slice e t) xs [v]:=by
 obtain⟨v,css,hk,he,ho,_⟩:=h
 refine⟨v,hk,?_⟩
 rcases ho.2 with⟨rfl,hn⟩ | ⟨g,cap,cur,rfl,_,hg,hnc,_⟩
 ·have hx:xs=[]:=W8 hn
  subst hx
  exact⟨none,0,rfl,T7 _,fun h=>V2 rfl h⟩
 ·refine⟨some ⟨g,0,none⟩,cap,rfl,hnc,fun _=>⟨g,0,rfl,fun i hi => ?_⟩⟩
  have hi':i < css.length:=by rw[he.1]; exact hi
  refine⟨css[i],eP (fun b o v h=>⟨hP _ _ h.1,h.2⟩) (he.2 i hi hi'),fun j u hj => ?_⟩
  have hjs:j < t.sz:=by
   have:=he.lens _ (bf_ hi')
   rw[←this]
   exact(U0.1 hj).1
  have hfl:css.flatten[i*t.sz+j]? = some u:=(iT he.lens (T9 hi') hjs).trans hj
  have hlt:i*t.sz+j < xs.length*t.sz:=by
   have h1:(i+1)*t.sz≤xs.length*t.sz:=ae_ _ hi
   rw[cp_] at h1
   omega
  refine⟨hP' g (by simp[bj,hk,ao_]) _ (by omega),?_⟩
  have:=ho.cells (g:=g) rfl _ _ hfl
  rwa[add_lit,←Z8] at this
def fE (L:Lk) (γ:Nat→Option G) (res:aB) (P:Nat→Prop):Prop := ∀ r e t xs,P r→((∃ fr,ay res r=some (.row e t xs fr))∨ay res r=some (.old e t xs)) → ∃ v,γ r=some (.row e t v)∧RK L (.slice e t) xs [v]
theorem eQ {t s:Ty} {x:t.den} {y:s.den} (h:ef? s x=some y) : ∃ h:t=s,h ▸ x=y:=by
 unfold ef? at h
 split at h
 ·exact⟨by assumption,by simpa using h⟩
 ·cases h
section
variable {L:Lk} {γ:Nat→Option G} {res:aB} {P:Nat→Prop}
theorem ui {g:(t:Ty)→SV→Option t.den} (Q:SV→Prop) (hg : ∀ {a t:Ty} {v:SV} {x:a.den} {c:List Value},Q v→RT L γ t v c→g a v=some x→RK L a x c) :
  ∀ {t s:Ty} {l:List SV} {cs:List Value} {x:t.den},(∀ v∈l,Q v)→eG L γ s l cs→pk g t l=some x→RK L t x cs
 | t,_,_,_,x,hq,.nil,h=>by
  cases t <;> simp only[pk] at h <;> first | (cases h; done) | exact rfl
 | t,_,_,_,x,hq,.cons hv k,h=>by
  cases t <;> simp only[pk] at h <;> try (cases h; done)
  simp only[S7] at h
  obtain⟨u,hu,w,hw,he⟩:=h
  cases he
  exact⟨_,_,rfl,hg (hq _ (by simp)) hv hu,ui Q hg (fun v hv=>hq v (T8 _ hv)) k hw⟩
theorem Dw {d:Nat} {t:Ty} {r:Nat} {x:t.den} (h:cq res (d+1) t (.row r)=some x) : ∃ e s xs,((∃ fr,ay res r=some (.row e s xs fr))∨ay res r=some (.old e s xs))∧ef? (t := .slice e s) t xs=some x:=by
 have h':(match ay res r with
  | some (.row e s xs _)=>ef? (t := .slice e s) t xs
  | some (.old e s xs)=>ef? (t := .slice e s) t xs
  | _=>none)=some x:=by
  cases t <;> exact h
 split at h'
 ·exact⟨_,_,_,.inl ⟨_,by assumption⟩,h'⟩
 ·exact⟨_,_,_,.inr (by assumption),h'⟩
 ·cases h'
theorem pK (hr:fE L γ res P) : ∀(d d':Nat) {t s:Ty} {v:SV} {x:t.den} {cs:List Value},d≤d'→(∀ r∈cG d' v,P r)→RT L γ s v cs→cq res d t v=some x→RK L t x cs:=by
 intro d
 induction d with
 | zero=>intro d' t s v x cs _ _ _ h; simp[cq] at h
 | succ d ih =>
  intro d' t s v x cs hd hP hv h
  cases d' with
  | zero=>omega
  | succ d' =>
   cases hv with
   | val hk =>
    simp only[cq] at h
    obtain⟨rfl,rfl⟩:=eQ h
    exact hk
   | nilS =>
    cases t <;> simp only[cq] at h <;> try (cases h; done)
    cases h
    exact⟨none,0,rfl,T7 _,fun h=>V2 rfl h⟩
   | row hk =>
    rename_i r _
    obtain⟨e,s,xs,hres,hc⟩:=Dw h
    obtain⟨v,hv,hrk⟩:=hr r e s xs (hP r (by simp[cG])) hres
    rw[hk] at hv
    cases hv
    obtain⟨rfl,rfl⟩:=eQ hc
    exact hrk
   | strct hk =>
    rename_i l
    cases t <;> simp only[cq] at h <;> try (cases h; done)
    rename_i t'
    show RK L t' x cs
    refine ui (t:=t') (x:=x) (fun v => ∀ r∈cG d' v,P r) (fun hq ht hx=>ih d' (Nat.le_of_succ_le_succ hd) hq ht hx) (fun v hv r hrr=>hP r ?_) hk h
    simp only[cG,List.mem_flatMap]
    exact⟨v,hv,hrr⟩
theorem eZ (hr:fE L γ res P) {d d':Nat} {t:Ty} {v:SV} {x:t.den} {u:Value} (hd:d≤d') (hP : ∀ r∈cG d' v,P r) (hv:RV L γ v u) (h:cq res d t v=some x) : ∃ cs,u=mk t cs∧RK L t x cs:=by
 match d,d',hd with
 | 0,_,_=>simp[cq] at h
 | d+1,d'+1,hd =>
  cases hv with
  | undef=>simp[cq] at h
  | nilS =>
   cases t <;> simp only[cq] at h <;> try (cases h; done)
   cases h
   exact⟨[.slice none 0 0],rfl,none,0,rfl,T7 _,fun h=>V2 rfl h⟩
  | val hk =>
   simp only[cq] at h
   obtain⟨rfl,rfl⟩:=eQ h
   exact⟨_,rfl,hk⟩
  | row hk =>
   rename_i e s r
   have hrk:=pK hr (d+1) (d'+1) hd hP (.row hk) h
   refine⟨_,?_,hrk⟩
   obtain⟨e',s',xs,_,hc⟩:=Dw h
   obtain⟨rfl,_⟩:=eQ hc
   rfl
  | strct hk =>
   have hrk:=pK hr (d+1) (d'+1) hd hP (.strct hk) h
   cases t <;> simp only[cq] at h <;> try (cases h; done)
   exact⟨_,rfl,hrk⟩
  | ptr=>simp[cq] at h
  | eptr=>simp[cq] at h
  | rptr=>simp[cq] at h
  | tail=>simp[cq] at h
  | fn=>simp[cq] at h
  | tup=>simp[cq] at h
end
abbrev yL (w:World):Lk:=Ln (fun _ _=>True) w
section
variable {w0:World} {X:Nat→Prop} {Pr0:Nat→Nat→Prop} {sl:List SV} {get:Nat→Option aP} {γ:Nat→Option G} {Pr:Nat→Nat→Prop} {a:Act} {w:World} {res:aB}
theorem Qs : ∀ b o v,Ln Pr w b o v→yL w b o v:=fun b o v h=>⟨trivial,h.2⟩
theorem RC (hI:bn w0 X Pr0 sl get γ Pr a w) (hk : ∀ r x,ay res r=some x→get r=some x):fE (yL w) γ res (fun _=>True):=by
 intro r e t xs _ h
 rcases h with⟨fr,h⟩ | h
 ·exact sS (hI.res r _ (hk r _ h)) (fun _ _ _=>trivial) (fun _ _ _ _=>trivial)
 ·obtain⟨v,hv,hr⟩:=hI.res r _ (hk r _ h)
  exact⟨v,hv,eP Qs hr⟩
theorem Pf (hI:bn w0 X Pr0 sl get γ Pr a w) (hk : ∀ r x,ay res r=some x→get r=some x) {d:Nat} {t:Ty} {v:SV} {x:t.den} {u:Value} (hv:RV (Ln Pr w) γ v u) (h:cq res d t v=some x) :
  ∃ cs,u=mk t cs∧RK (yL w) t x cs:=eZ (RC hI hk) (T7 d) (fun _ _=>trivial) (pu Qs (fun _ _ h=>h) hv) h
theorem RD (hI:bn w0 X Pr0 sl get γ Pr a w) {l:List Nat} (hk : ∀ r e t xs fr,r∈l→ay res r=some (.row e t xs fr)→get r=some (.row e t xs true))
  (ho : ∀ r e t xs,ay res r=some (.old e t xs)→get r=some (.old e t xs)):fE (Ln Pr w) γ res (fun r=>r∈l):=by
 intro r e t xs hr h
 rcases h with⟨fr,h⟩ | h
 ·have h1:=hI.res r _ (hk r e t xs fr hr h)
  obtain⟨v,css,h2,h3,h4,h5⟩:=h1
  refine sS (hI.res r _ (hk r e t xs fr hr h)) (fun _ _ h=>h) (fun b hb o hoo=>h5 rfl b ?_ o hoo)
  simpa[bj,h2] using hb
 ·obtain⟨v,hv,hr⟩:=hI.res r _ (ho r e t xs h)
  exact⟨v,hv,hr⟩
end
end Go.Proofs.YtfffplonjaigkaaGreatDoor.Abs
namespace Go.Proofs.YtfffplonjaigkaaGreatDoor.Abs
open Go Go.RowKit
def lK (γ:Nat→Option G) (res:aB):Prop := ∀ r e t xs,((∃ fr,ay res r=some (.row e t xs fr))∨ay res r=some (.old e t xs)) → ∃ v,γ r=some (.row e t v)
section
variable {L:Lk} {γ:Nat→Option G} {res:aB}
theorem Fw {d:Nat} {t:Ty} {r:Nat} (h:eg res (d+1) t (.row r)=true) : ∃ e s,((∃ xs fr,ay res r=some (.row e s xs fr)) ∨ ∃ xs,ay res r=some (.old e s xs))∧Ty.slice e s=t:=by
 have h':(match ay res r with
  | some (.row e s _ _)=>decide (Ty.slice e s=t)
  | some (.old e s _)=>decide (Ty.slice e s=t)
  | _=>false)=true:=by
  cases t <;> exact h
 split at h'
 ·exact⟨_,_,.inl ⟨_,_,by assumption⟩,X7 h'⟩
 ·exact⟨_,_,.inr ⟨_,by assumption⟩,X7 h'⟩
 ·cases h'
theorem IV {g:Ty→SV→Bool} (hg : ∀ {a s:Ty} {v:SV} {c:List Value},RT L γ s v c→g a v=true→RT L γ a v c) : ∀ {t s:Ty} {l:List SV} {cs:List Value},eG L γ s l cs→eg.go g t l=true→eG L γ t l cs
 | t,_,_,_,.nil,h=>by
  cases t <;> simp only[eg.go] at h <;> first | (cases h; done) | exact .nil
 | t,_,_,_,.cons hv k,h=>by
  cases t <;> simp only[eg.go,S8] at h <;> try (cases h; done)
  exact .cons (hg hv h.1) (IV hg k h.2)
theorem IW (hr:lK γ res) : ∀(d:Nat) {t s:Ty} {v:SV} {cs:List Value},RT L γ s v cs→eg res d t v=true→RT L γ t v cs:=by
 intro d
 induction d with
 | zero=>intro t s v cs _ h; simp[eg] at h
 | succ d ih =>
  intro t s v cs hv h
  cases hv with
  | val hk =>
   simp only[eg,T0] at h
   subst h
   exact .val hk
  | nilS =>
   cases t <;> simp only[eg] at h <;> try (cases h; done)
   exact .nilS
  | row hk =>
   rename_i e s' r v'
   obtain⟨e',s2,hh,rfl⟩:=Fw h
   have : ∃ v,γ r=some (.row e' s2 v):=by
    rcases hh with⟨xs,fr,hh⟩ | ⟨xs,hh⟩
    ·exact hr r e' s2 xs (.inl ⟨fr,hh⟩)
    ·exact hr r e' s2 xs (.inr hh)
   obtain⟨v2,hv2⟩:=this
   rw[hk] at hv2
   cases hv2
   exact .row hk
  | strct hk =>
   cases t <;> simp only[eg] at h <;> try (cases h; done)
   exact .strct (IV (fun hv hh=>ih hv hh) hk h)
theorem xZ (hr:lK γ res) {d:Nat} {t:Ty} {v:SV} {u:Value} (hv:RV L γ v u) (h:eg res d t v=true) : ∃ cs,u=mk t cs∧RT L γ t v cs:=by
 cases d with
 | zero=>simp[eg] at h
 | succ d =>
  cases hv with
  | undef=>simp[eg] at h
  | ptr=>simp[eg] at h
  | eptr=>simp[eg] at h
  | rptr=>simp[eg] at h
  | tail=>simp[eg] at h
  | fn=>simp[eg] at h
  | tup=>simp[eg] at h
  | nilS =>
   cases t <;> simp only[eg] at h <;> try (cases h; done)
   exact⟨_,rfl,.nilS⟩
  | val hk =>
   simp only[eg,T0] at h
   subst h
   exact⟨_,rfl,.val hk⟩
  | row hk =>
   have:=IW hr (d+1) (RT.row (L:=L) hk) h
   obtain⟨e',s2,hh,rfl⟩:=Fw h
   exact⟨_,rfl,this⟩
  | strct hk =>
   have:=IW hr (d+1) (RT.strct hk) h
   cases t <;> simp only[eg] at h <;> try (cases h; done)
   exact⟨_,rfl,this⟩
theorem rg {t:Ty} {v:SV} {cs:List Value} (h:RT L γ t v cs) (hf : ∀ u,t = .agg u→JY u):RT L γ t (ff v) cs:=by
 cases h with
 | @val t x cs hk =>
  cases t <;> simp only[ff] <;> first | exact .val hk | exact .strct (yK hk (hf _ rfl))
 | nilS=>exact .nilS
 | row h=>exact .row h
 | strct h=>exact .strct h
theorem AM {t s:Ty} {l:List SV} {cs:List Value} {v:SV} (h:eG L γ s l cs) (hc:sN t l=some v):RV L γ v (.agg cs.toArray)∧((∃ x,v = .val (.agg t) x∧RK L t x cs)∨v = .strct l):=by
 unfold sN at hc
 split at hc
 ·simp only[S7] at hc
  obtain⟨x,hx,he⟩:=hc
  cases he
  have hr:fE L γ [] (fun _=>True):=by
   intro r e t xs _ h
   rcases h with⟨fr,h⟩ | h <;> simp[ay] at h
  have hk:RK L t x cs:=ui (fun _=>True) (fun _ ht hx=>pK hr 9 9 (T7 _) (fun _ _=>trivial) ht hx) (fun _ _=>trivial) h hx
  exact⟨RV.val (t := .agg t) hk,.inl ⟨x,rfl,hk⟩⟩
 ·cases hc
  exact⟨.strct h,.inr rfl⟩
theorem sT : ∀ {t:Ty},cJ true t=true→JY t
 | .pair a b,h=>by
  simp only[cJ,S8] at h
  exact sT (t:=b) h.2
 | .unit,_=>trivial
 | .int _,h=>by simp[cJ] at h
 | .bool,h=>by simp[cJ] at h
 | .err,h=>by simp[cJ] at h
 | .fn,h=>by simp[cJ] at h
 | .pt,h=>by simp[cJ] at h
 | .bp _,h=>by simp[cJ] at h
 | .str,h=>by simp[cJ] at h
 | .agg _,h=>by simp[cJ] at h
 | .slice _ _,h=>by simp[cJ] at h
theorem mL : ∀(t:Ty),RK L t t.dflt (zc t)
 | .err => .inl ⟨rfl,rfl⟩
 | .fn=>rfl
 | .pt=>rfl
 | .bp _=>rfl
 | .int k=>rfl
 | .bool=>rfl
 | .str=>rfl
 | .unit=>rfl
 | .pair a b=>⟨_,_,rfl,mL a,mL b⟩
 | .agg t=>mL t
 | .slice e t=>⟨none,0,rfl,T7 _,fun h=>V2 rfl h⟩
theorem sU : ∀(t:Ty),(cJ false t=true→RT L γ t (gH t) (zc t))∧(cJ true t=true→eG L γ t (gH.go t) (zc t))
 | .int k=>⟨fun _ => .val rfl,fun h=>by simp[cJ] at h⟩
 | .bool=>⟨fun _ => .val rfl,fun h=>by simp[cJ] at h⟩
 | .err=>⟨fun _ => .val (mL (L:=L) .err),fun h=>by simp[cJ] at h⟩
 | .fn=>⟨fun _ => .val rfl,fun h=>by simp[cJ] at h⟩
 | .pt=>⟨fun _ => .val rfl,fun h=>by simp[cJ] at h⟩
 | .bp _=>⟨fun _ => .val rfl,fun h=>by simp[cJ] at h⟩
 | .str=>⟨fun _ => .val rfl,fun h=>by simp[cJ] at h⟩
 | .unit=>⟨fun h=>by simp[cJ] at h,fun _ => .nil⟩
 | .pair a b=>⟨fun h=>by simp[cJ] at h,fun h=>by
   simp only[cJ,S8] at h
   exact .cons ((sU a).1 h.1) ((sU b).2 h.2)⟩
 | .agg t=>⟨fun h => .strct ((sU t).2 h),fun h=>by simp[cJ] at h⟩
 | .slice e t=>⟨fun _ => .nilS,fun h=>by simp[cJ] at h⟩
def aU (cs:List Value) (o:Nat) (c:List Value):List Value:=cs.take o++c++cs.drop (o+c.length)
theorem HP {c d e:List Value} (h:c.length=d.length):aU (c++e) 0 d=d++e:=by
 simp[aU,←h]
theorem pL {c d e:List Value} {o:Nat}:aU (c++d) (c.length+o) e=c++aU d o e:=by
 simp only[aU,cq_,List.drop_append,Z8,cv_,X2]
 rw[List.take_of_length_le (by omega),List.drop_eq_nil_of_le (by omega)]
 simp
theorem Cq : ∀ {t:Ty} {l:List SV} {cs:List Value},eG L γ t l cs → ∀ {f:Nat} {o:Nat} {s:Ty} {v:SV} {c:List Value},cw t f=some (o,s)→RT L γ s v c→eG L γ t (l.set f v) (aU cs o c)
 | _,_,_,.nil,f,o,s,v,c,h,_=>by simp[cw] at h
 | _,_,_,.cons (d:=d) hv k,0,o,s,v,c,h,hc=>by
  simp only[cw,U3,Prod.mk.injEq] at h
  obtain⟨rfl,rfl⟩:=h
  rw[HP ((d9 hv).trans (d9 hc).symm)]
  exact .cons hc k
 | _,_,_,.cons (d:=d) hv k,f+1,o,s,v,c,h,hc=>by
  simp only[cw,Y8] at h
  obtain⟨q,hq,he⟩:=h
  cases he
  rw[←d9 hv,pL]
  exact .cons hv (Cq k hq hc)
theorem IX : ∀ {t:Ty} {f o:Nat} {s:Ty},cJ true t=true→cw t f=some (o,s)→cJ false s=true
 | .pair a b,0,o,s,h,ho=>by
  simp only[cJ,S8] at h
  cases ho
  exact h.1
 | .pair a b,f+1,o,s,h,ho=>by
  simp only[cJ,S8] at h
  simp only[cw,Y8] at ho
  obtain⟨q,hq,he⟩:=ho
  cases he
  exact IX (t:=b) h.2 hq
 | .unit,_,_,_,_,ho=>by simp[cw] at ho
 | .int _,_,_,_,h,_=>by simp[cJ] at h
 | .bool,_,_,_,h,_=>by simp[cJ] at h
 | .err,_,_,_,h,_=>by simp[cJ] at h
 | .str,_,_,_,h,_=>by simp[cJ] at h
 | .agg _,_,_,_,h,_=>by simp[cJ] at h
 | .slice _ _,_,_,_,h,_=>by simp[cJ] at h
theorem jL {cs c:List Value} {o:Nat} (h:o+c.length≤cs.length):(aU cs o c).length=cs.length:=by
 simp[aU]
 omega
theorem jM {cs c:List Value} {o:Nat} (h:o+c.length≤cs.length) (j:Nat):(aU cs o c)[j]? = if o≤j∧j < o+c.length then c[j - o]? else cs[j]? := by
 unfold aU
 by_cases h1:j < o
 ·rw[S4 (by omega),X2,X8 (by simp; omega),bz_,S6 h1]
 ·by_cases h2:j < o+c.length
  ·rw[S6 ⟨by omega,h2⟩,X2,Z3 (by simp; omega)]
   rw[X8 (by simp; omega)]
   congr 1
   simp
   omega
  ·rw[S4 (by omega),Z3 (by simp; omega),List.getElem?_drop]
   congr 1
   simp
   omega
theorem LH {cs c1 c:List Value} {o o':Nat} (h:dw c1 cs o) (hl:o+c1.length≤cs.length) (h':o'+c.length≤c1.length):aU cs o (aU c1 o' c)=aU cs (o+o') c:=by
 apply cj_
 intro j
 rw[jM (by rw[jL h']; exact hl),jL h']
 by_cases h1:o≤j∧j < o+c1.length
 ·rw[S6 h1,jM h']
  rw[jM (cs:=cs) (c:=c) (o:=o+o') (by omega)]
  by_cases h2:o'≤j - o∧j - o < o'+c.length
  ·rw[S6 h2,S6 (by omega)]
   congr 1
   omega
  ·rw[S4 h2,S4 (by omega)]
   have:=h (j - o) _ (T9 (by omega))
   rw[T9 (by omega),←this]
   congr 1
   omega
 ·rw[S4 h1,jM (cs:=cs) (c:=c) (o:=o+o') (by omega),S4 (by omega)]
theorem wy : ∀ {p:List Nat} {t:Ty} {v u z:SV} {cs:List Value} {o:Nat} {s:Ty} {c:List Value},cJ false t=true→RT L γ t v cs→dj t p=some (o,s)→RT L γ s u c→AD p v u=some z→RT L γ t z (aU cs o c)∧o+c.length≤cs.length
 | [],t,v,u,z,cs,o,s,c,hwf,hv,ho,hu,h=>by
  have:(0,t)=(o,s):=by cases t <;> simpa[dj] using ho
  cases this
  cases h
  have h1:aU cs 0 c=c:=by
   have:=d9 hv
   have:=d9 hu
   simp[aU]
   omega
  rw[h1]
  refine⟨rg hu fun w hw => ?_,by have:=d9 hv; have:=d9 hu; omega⟩
  subst hw
  exact sT hwf
 | f :: p,t,v,u,z,cs,o,s,c,hwf,hv,ho,hu,h=>by
  simp only[AD] at h
  have hsp:=rg hv (fun w hw=>by subst hw; exact sT hwf)
  split at h
  ·rename_i l hl
   simp only[S7] at h
   obtain⟨z1,h1,z2,h2,he⟩:=h
   cases he
   rw[hl] at hsp
   cases hsp with
   | @strct t' _ _ hk =>
    simp only[dj,S7,Y8] at ho
    obtain⟨q,hq,q',hq',he⟩:=ho
    cases he
    obtain⟨s1,o1,c1,h3,h4,h5⟩:=Co hk h1
    rw[hq] at h3
    cases h3
    have hwf1:cJ false s1=true:=IX hwf hq
    obtain⟨h6,h7⟩:=wy hwf1 h4 hq' hu h2
    have h8:=Cq hk hq h6
    have hl1:=zv hq
    have hlen1:c1.length=s1.sz:=d9 h4
    have hlen:cs.length=t'.sz:=Cn hk
    have h9:aU cs o1 (aU c1 q'.1 c)=aU cs (o1+q'.1) c:=LH h5 (by omega) h7
    rw[h9] at h8
    exact⟨.strct h8,by omega⟩
  ·cases h
theorem IY {c:List Value} {o2:Nat} : ∀ {t:Ty} {x x':t.den} {f o:Nat} {s:Ty} {g:(s:Ty)→s.den→Option s.den} {cs:List Value},mF t x f g=some x'→cw t f=some (o,s) →
  (∀ y y' c',g s y=some y'→RK L s y c'→RK L s y' (aU c' o2 c)∧o2+c.length≤c'.length)→RK L t x cs→RK L t x' (aU cs (o+o2) c)∧o+o2+c.length≤cs.length
 | .pair a b,x,x',0,o,s,g,cs,h,ho,hg,hk=>by
  simp only[mF,S7] at h
  obtain⟨y,hy,he⟩:=h
  cases he
  cases ho
  obtain⟨c1,d,rfl,h1,h2⟩:=hk
  obtain⟨h3,h4⟩:=hg _ _ _ hy h1
  refine⟨⟨aU c1 o2 c,d,?_,h3,h2⟩,by rw[S5]; omega⟩
  rw[Y5]
  simp only[aU,X2]
  rw[List.take_append_of_le_length (by omega),List.drop_append_of_le_length (by omega)]
 | .pair a b,x,x',f+1,o,s,g,cs,h,ho,hg,hk=>by
  simp only[mF,S7] at h
  obtain⟨y,hy,he⟩:=h
  cases he
  simp only[cw,Y8] at ho
  obtain⟨q,hq,he⟩:=ho
  cases he
  obtain⟨c1,d,rfl,h1,h2⟩:=hk
  obtain⟨h3,h4⟩:=IY (t:=b) hy hq hg h2
  have hl:=dv h1
  refine⟨⟨c1,aU d (q.1+o2) c,?_,h1,h3⟩,by rw[S5]; omega⟩
  rw[Z8,←hl,pL]
 | .int _,_,_,_,_,_,_,_,h,_,_,_=>by simp[mF] at h
 | .bool,_,_,_,_,_,_,_,h,_,_,_=>by simp[mF] at h
 | .err,_,_,_,_,_,_,_,h,_,_,_=>by simp[mF] at h
 | .str,_,_,_,_,_,_,_,h,_,_,_=>by simp[mF] at h
 | .unit,_,_,_,_,_,_,_,h,_,_,_=>by simp[mF] at h
 | .agg _,_,_,_,_,_,_,_,h,_,_,_=>by simp[mF] at h
 | .slice _ _,_,_,_,_,_,_,_,h,_,_,_=>by simp[mF] at h
theorem IZ {s:Ty} {c:List Value} {u:(s:Ty)→Option s.den} (hu : ∀ y,u s=some y→RK L s y c) : ∀ {p:List Nat} {t:Ty} {x x':t.den} {o:Nat} {cs:List Value},pE p t x u=some x'→dj t p=some (o,s) →
  RK L t x cs→RK L t x' (aU cs o c)∧o+c.length≤cs.length
 | [],t,x,x',o,cs,h,ho,hk=>by
  have:(0,t)=(o,s):=by cases t <;> simpa[dj] using ho
  cases this
  have h1:=hu x' (by cases s <;> exact h)
  have h2:aU cs 0 c=c:=by
   have:=dv hk
   have:=dv h1
   simp[aU]
   omega
  rw[h2]
  exact⟨h1,by have:=dv hk; have:=dv h1; omega⟩
 | f :: p,.agg t,x,x',o,cs,h,ho,hk=>by
  simp only[dj,S7,Y8] at ho
  obtain⟨q,hq,q',hq',he⟩:=ho
  cases he
  exact IY (t:=t) (x:=x) (x':=x') (show mF t x f (fun s y=>pE p s y u)=some x' from h) hq (fun y y' c' hy hk'=>IZ hu hy hq' hk') hk
 | f :: p,.int _,_,_,_,_,h,_,_=>by simp[pE] at h
 | f :: p,.bool,_,_,_,_,h,_,_=>by simp[pE] at h
 | f :: p,.err,_,_,_,_,h,_,_=>by simp[pE] at h
 | f :: p,.str,_,_,_,_,h,_,_=>by simp[pE] at h
 | f :: p,.unit,_,_,_,_,h,_,_=>by simp[pE] at h
 | f :: p,.pair _ _,_,_,_,_,h,_,_=>by simp[pE] at h
 | f :: p,.slice _ _,_,_,_,_,h,_,_=>by simp[pE] at h
end
end Go.Proofs.YtfffplonjaigkaaGreatDoor.Abs
namespace Go.Proofs.YtfffplonjaigkaaGreatDoor.Abs
open Go Go.RowKit
theorem pM : ∀(xs:List Int) (s:S0),xs.foldl (fun r n=>r.push (UInt8.ofNat n.toNat)) s=⟨s.data++(xs.map fun n=>UInt8.ofNat n.toNat).toArray⟩
 | [],s=>by simp
 | x :: xs,s=>by
  rw[bm_,pM xs]
  congr 1
  apply ab_.1
  simp[ByteArray.push]
section
variable {P:Program} {w:World}
theorem lL {T:TypeId} {t:Ty} (h:eb P T t) {c:List Value} (hl:c.length=t.sz) {b o:Nat} (hc : ∀ j v,c[j]? = some v→w.cell? ⟨b,o+j,none⟩=some v):(loadVar T ⟨b,o,none⟩).run P w = .ok (mk t c) w:=by
 have hload:(loadCells ⟨b,o,none⟩ t.sz).run P w = .ok c.toArray w:=by
  rw[←hl]
  exact run_loadCells_list w _ c (fun j v hj=>by rw[add_lit]; exact hc j v hj)
 simp only[loadVar,U5,h.isAgg,T6]
 by_cases ha:lJ t=true
 ·obtain⟨u,rfl⟩ : ∃ u,t = .agg u:=by cases t <;> simp_all [lJ]
  simp only[lJ,V4,U5,h.sizeOf,T6,hload,V0]
  rfl
 ·rw[S4 ha]
  have h1:t.sz=1:=by
   rcases h.one with h1 | ⟨u,rfl⟩
   ·exact h1
   ·simp[lJ] at ha
  obtain⟨x,rfl⟩:=bx_.1 (hl.trans h1)
  have:=hc 0 x rfl
  simp only[au_] at this
  rw[run_load,this]
  cases t <;> first | rfl | (simp[lJ] at ha)
end
section
variable {P:Program} {w0:World} {X:Nat→Prop} {Pr0:Nat→Nat→Prop} {sl:List SV} {get:Nat→Option aP} {γ:Nat→Option G} {Pr:Nat→Nat→Prop} {a:Act} {w:World} {res:aB} {r0:Nat}
theorem bn.tys (hI:bn w0 X Pr0 sl get γ Pr a w) (hk : ∀ r x,ay res r=some x→get r=some x):lK γ res:=by
 intro r e t xs h
 rcases h with⟨fr,h⟩ | h
 ·obtain⟨v,css,hv,_⟩:=hI.res r _ (hk r _ h)
  exact⟨v,hv⟩
 ·obtain⟨v,hv,_⟩:=hI.res r _ (hk r _ h)
  exact⟨v,hv⟩
theorem zw (hI:bn w0 X Pr0 sl get γ Pr a w) {r:Nat} {bt s:Ty} {c v:SV} {path:List Nat} {u:Value} {T:TypeId} (hu:RV (Ln Pr w) γ (.ptr r s path) u) (hg:get r=some (.box bt c)) (hT:eb P T s) (hv:Fi bt path c=some v) :
  ∃ cs,(Instr.loadAt T u).run P w = .ok (mk s cs) w∧RT (Ln Pr w) γ s v cs:=by
 obtain⟨b,arr,T',hb,hh,hr⟩:=hI.res r _ hg
 obtain⟨hbl,hv⟩:=Pq hv
 replace hr:=hr.exact hbl
 cases hu with
 | ptr h hp =>
  rw[hb] at h
  cases h
  obtain⟨s',o',cs,h1,h2,h3⟩:=Dv hr hv
  rw[hp] at h1
  cases h1
  refine⟨cs,?_,h2⟩
  simp only[Instr.loadAt,Instr.sureAddr,U5,V0,T6]
  refine lL hT (d9 h2) fun j v hj => ?_
  rw[cell_of_row w b _ arr T' (0,0) hh]
  simpa using h3 j v hj
theorem LI {L:Lk} (hL : ∀ b o v,L b o v→w.cell? ⟨b,o,none⟩=some v) {s:Ty} {x:s.den} {u:Value} {T:TypeId} (hu:RV L γ (.eptr s x) u) (hT:eb P T s) : ∃ cs,(Instr.loadAt T u).run P w = .ok (mk s cs) w∧RK L s x cs:=by
 cases hu with
 | eptr h hc =>
  refine⟨_,?_,h⟩
  simp only[Instr.loadAt,Instr.sureAddr,U5,V0,T6]
  exact lL hT (dv h) fun j v hj=>hL _ _ _ (hc j v hj)
theorem NP (hI:bn w0 X Pr0 sl get γ Pr a w) {r:Nat} {e:TypeId} {t:Ty} {xs:List t.den} {fr:Bool} (hg:get r=some (.row e t xs fr)) {b n cap:Nat} (hb:γ r=some (.row e t (.slice (some ⟨b,0,none⟩) n cap))) {i:Nat} (hi:i < n) :
  n=xs.length ∧ ∃ c,RK (Ln Pr w) t (xs.getD i t.dflt) c ∧ ∀ j v,c[j]? = some v→w.cell? ⟨b,i*t.sz+j,none⟩=some v:=by
 obtain⟨v,css,hv,he,ho,_⟩:=hI.res r _ hg
 rw[hb] at hv
 cases hv
 rcases ho.2 with⟨hn,_⟩ | ⟨g,cap',cur,hs,_,hh,hnc,_,_,ht⟩
 ·cases hn
 ·cases hs
  refine⟨rfl,?_⟩
  have hi':i < css.length:=by rw[he.1]; exact hi
  refine⟨css[i],?_,fun j u hj => ?_⟩
  ·have:=he.2 i hi hi'
   rwa[V9,T9 hi,Z6]
  ·have hjs:j < t.sz:=by
    have:=he.lens _ (bf_ hi')
    rw[←this]
    exact(U0.1 hj).1
   have hfl:css.flatten[i*t.sz+j]? = some u:=(iT he.lens (T9 hi') hjs).trans hj
   have:=ho.cells (g:=b) rfl _ _ hfl
   rwa[add_lit,Y5] at this
theorem LJ (hI:bn w0 X Pr0 sl get γ Pr a w) {r:Nat} {e:TypeId} {t s s0:Ty} {xs:List t.den} {fr:Bool} {y:s.den} {i:Int} {path:List Nat} {u:Value} {T:TypeId} (hu:RV (Ln Pr w) γ (.rptr r s0 i path) u) (hg:get r=some (.row e t xs fr)) (hT:eb P T s)
  (hv:kS path t (xs.getD i.toNat t.dflt)=some (.val s y)) : ∃ cs,(Instr.loadAt T u).run P w = .ok (mk s cs) w∧RK (Ln Pr w) s y cs:=by
 cases hu with
 | rptr h h0 hn hp =>
  obtain⟨v,css,hv',_⟩:=hI.res r _ hg
  rw[h] at hv'
  cases hv'
  obtain⟨_,c,h1,h2⟩:=NP hI hg h (i:=i.toNat) (by omega)
  obtain⟨s',y',o',he,ho,hc⟩:=IU (L:=Ln Pr w) hv
  cases he
  rw[hp] at ho
  cases ho
  obtain⟨c',h3,h4⟩:=hc c h1
  refine⟨c',?_,h3⟩
  simp only[Instr.loadAt,Instr.sureAddr,U5,V0,T6]
  refine lL hT (dv h3) fun j v hj => ?_
  rw[Z8]
  exact h2 _ _ (h4 j v hj)
theorem NQ (hr:lK γ res) {L:Lk} {T:TypeId} {t:Ty} {x v:SV} {f:Nat} {u:Value} (hU:jJ P T t) (hx:RV L γ x u) (hf:eg res 9 t x=true) (hg:uc x f=some v) : ∃ s cs,(Instr.field T u f).run P w = .ok (mk s cs) w∧RT L γ s v cs:=by
 obtain⟨cs,rfl,hrt⟩:=xZ hr hx hf
 obtain⟨t',s,o,c,rfl,ho,h1,h2⟩:=Fv hrt hg
 obtain⟨fs,hfs,hok⟩:=hU
 obtain⟨fl,h3,h4,h5,h6⟩:=sR hok ho
 refine⟨s,c,?_,h1⟩
 have h3':fs[f]? = some fl:=by simpa using h3
 simp only[Instr.field,U5,run_underlying hfs,T6,h3']
 simp only[mk,asAgg,U5,V0,T6]
 rw[h4,Y5]
 exact Cp h6 (d9 h1) h2 w
theorem pN {T:TypeId} {t s:Ty} {f o':Nat} {b o:Nat} (hU:jJ P T (.agg t)) (hf:cw t f=some (o',s)):(Instr.fieldAt T (.pointer (some ⟨b,o,none⟩)) f).run P w = .ok (.pointer (some ⟨b,o+o',none⟩)) w:=by
 obtain⟨fs,hfs,hok⟩:=hU
 obtain⟨fl,h3,h4,h5,h6⟩:=sR hok hf
 have h3':fs[f]? = some fl:=by simpa using h3
 simp only[Instr.fieldAt,U5,run_underlying hfs,T6,h3',Instr.sureAddr,V0,fieldPlace,h6.sizeOf]
 rw[S4 (by omega)]
 simp only[V0,T6,add_lit,h4,Y5]
theorem NR {src dst e:TypeId} {xs:List Int} {u:Value} (hs:P.underlying src=some (.slice e)) (he:P.underlying e=some (.int .u8)) (hd:P.underlying dst=some .string) (h:RK (yL w) (.slice e (.int .u8)) xs [u]) :
  (convert src dst u).run P w = .ok (.string (strOfNums xs)) w:=by
 obtain⟨A,cap,hu,hcap,hA⟩:=h
 cases hu
 rcases A with _ | ad
 ·have h0:xs=[]:=by
   by_cases hx:xs=[]
   ·exact hx
   ·obtain⟨b,o,h,_⟩:=hA hx
    cases h
  subst h0
  exact run_convert_bytes_nil w src e hs he 0 cap dst hd
 ·have hl:(loadCells ad (xs:List Int).length).run P w = .ok (xs.map (Value.int .u8)).toArray w:=by
   by_cases hx:xs=[]
   ·subst hx
    exact run_loadCells_list (P:=P) w ad [] (fun j v hj=>by simp at hj)
   ·obtain⟨b,o,h,hh⟩:=hA hx
    cases h
    have:=run_loadCells_list (P:=P) w ⟨b,o,none⟩ (xs.map (Value.int .u8)) (fun j v hj=>by
     rw[List.getElem?_map,Y8] at hj
     obtain⟨x,hj,rfl⟩:=hj
     obtain⟨hjl,hj⟩:=U0.1 hj
     obtain⟨c,h1,h2⟩:=hh j hjl
     rw[show c=_ from h1] at h2
     have:=(h2 0 _ rfl).2
     rw[add_lit]
     simp only[Ty.sz,Nat.mul_one,au_] at this
     rw[this]
     exact congrArg (fun z=>some (Value.int IntKind.u8 z)) hj)
    simpa using this
  rw[run_convert_bytes_string w src dst e _ _ cap hs he hd,run_bytesToString w ad _ cap xs hl,pM]
  simp[strOfNums,ByteArray.empty,ByteArray.emptyWithCapacity]
  rfl
end
end Go.Proofs.YtfffplonjaigkaaGreatDoor.Abs
namespace Go.Proofs.YtfffplonjaigkaaGreatDoor.Abs
open Go Go.RowKit
section
variable {P:Program} {E:ce} {call:(I:ap)→List SV→aB→Option (I.sh.den×I.bx.den)} {w0:World} {X:Nat→Prop} {Pr0:Nat→Nat→Prop} {sl:List SV} {get:Nat→Option aP} {γ:Nat→Option G} {Pr:Nat→Nat→Prop}
 {a:Act} {w:World} {res:aB} {r0:Nat} {o:Oper} {vs:List SV} {v:SV} {u:Up}
structure dP (P:Program) (E:ce) (call:(I:ap)→List SV→aB→Option (I.sh.den×I.bx.den)) (w0:World) (X:Nat→Prop) (Pr0:Nat→Nat→Prop) (sl:List SV) (get:Nat→Option aP) (γ:Nat→Option G) (Pr:Nat→Nat→Prop) (a:Act) (w:World)
  (res:aB) (r0:Nat) (o:Oper) (vs:List SV) (v:SV) (u:Up):Prop where
 env:d7 P E
 inv:bn w0 X Pr0 sl get γ Pr a w
 know : ∀ r x,ay res r=some x→get r=some x
 free : ∀ r,r0≤r→r < r0+64→γ r=none
 ops:b8 (Ln Pr w) γ vs ((cU o.op).map a.eval)
 says:cf E call o vs res r0 cd=some (v,u)
abbrev eH (P:Program) (w0:World) (X:Nat→Prop) (Pr0:Nat→Nat→Prop) (sl:List SV) (get:Nat→Option aP) (γ:Nat→Option G) (Pr:Nat→Nat→Prop) (a:Act) (w:World) (r0:Nat) (o:Oper) (v:SV) (u:Up):Prop :=
 zt P w0 X Pr0 o sl get γ Pr r0 a w v (bo get u)
theorem fY {L:Lk} {x:Value} (h:b8 L γ vs [x]) : ∃ p,vs=[p]∧RV L γ p x:=by
 cases h with
 | cons h k =>
  cases k
  exact⟨_,rfl,h⟩
theorem mM {L:Lk} {x y:Value} (h:b8 L γ vs [x,y]) : ∃ p q,vs=[p,q]∧RV L γ p x∧RV L γ q y:=by
 cases h with
 | cons h k =>
  obtain⟨q,rfl,hq⟩:=fY k
  exact⟨_,_,rfl,h,hq⟩
theorem LK {L:Lk} {x y z:Value} (h:b8 L γ vs [x,y,z]) : ∃ p q r,vs=[p,q,r]∧RV L γ p x∧RV L γ q y∧RV L γ r z:=by
 cases h with
 | cons h k =>
  obtain⟨q,r,rfl,hq,hr⟩:=mM k
  exact⟨_,_,_,rfl,h,hq,hr⟩
theorem bM (hE:d7 P E) {T:TypeId} {t:Ty} (h:cD E.ty T=some t):jJ P T t∧eb P T t:=hE.ty T t h
theorem Pt (H:dP P E call w0 X Pr0 sl get γ Pr a w res r0 o vs v u) {T:TypeId} {i:Operand} (hop:o.op = .load T i):eH P w0 X Pr0 sl get γ Pr a w r0 o v u:=by
 obtain⟨hE,hI,hk,hfr,hv,hc⟩:=H
 rw[hop] at hv
 obtain⟨p,rfl,hp⟩:=fY hv
 unfold cf at hc
 simp only[hop] at hc
 have ho:execOp a.eval o=(do pure (.value (←Instr.loadAt T (a.eval i)))):=by simp only[execOp,hop]
 split at hc
 ·rename_i t r s path hT
  split at hc
  ·rename_i hst
   subst hst
   obtain⟨hU,hT⟩:=bM hE hT
   split at hc
   ·rename_i bt c hg
    split at hc
    ·rename_i l hl
     obtain⟨cs,h1,h2⟩:=zw (P:=P) hI hp (hk _ _ hg) hT hl
     split at hc
     ·rename_i t'
      split at hc
      ·rename_i v' hcl
       cases hc
       cases h2 with
       | strct h2=>exact bd hI ho h1 (AM h2 hcl).1
      ·cases hc
     ·cases hc
    ·rename_i v' hl hne
     cases hc
     obtain⟨cs,h1,h2⟩:=zw (P:=P) hI hp (hk _ _ hg) hT hne
     exact bd hI ho h1 (JZ h2)
    ·cases hc
   ·rename_i g caps hg
    split at hc
    ·cases hc
     obtain⟨b,vs,h1,h2,h3⟩:=hI.res r _ (hk r _ hg)
     generalize hy:a.eval i=y at *
     cases hp with
     | ptr h hpo =>
      rw[h1] at h
      cases h
      cases hpo
      refine bd hI ho ?_ (.fn (IM h3))
      simp only[Instr.loadAt,Instr.sureAddr,U5,V0,T6]
      exact lL (t := .fn) (c:=[.func (.func g) #[] vs.toArray]) hT rfl fun j v hj=>by
       cases j with
       | zero =>
        cases hj
        exact h2.2
       | succ j=>simp at hj
    ·cases hc
   ·cases hc
  ·cases hc
 ·rename_i t s x hT
  split at hc
  ·rename_i hst
   subst hst
   cases hc
   obtain⟨cs,h1,h2⟩:=LI (P:=P) (w:=w) (fun b o v h=>h.2) hp (bM hE hT).2
   exact bd hI ho h1 (.val h2)
  ·cases hc
 ·rename_i t r s0 i' path hT
  split at hc
  ·rename_i e l hg
   split at hc
   ·split at hc
    ·rename_i v' hl
     cases hc
     obtain⟨b,vs,h1,h2,h3⟩:=hI.res r _ (hk r _ hg)
     generalize hy:a.eval i=y at *
     cases hp with
     | rptr h h0 hn hpo =>
      rw[h1] at h
      cases h
      cases hpo
      obtain⟨z,hz,hv'⟩:=IP h2 hl
      refine bd hI ho ?_ (Pe hv')
      simp only[Instr.loadAt,Instr.sureAddr,U5,V0,T6]
      exact lL (t := .pt) (c:=[z]) (bM hE hT).2 rfl fun j v hj=>by
       cases j with
       | zero =>
        cases hj
        have:=(h3 _ _ hz).2
        simpa[Ty.sz] using this
       | succ j=>simp at hj
    ·cases hc
   ·cases hc
  ·rename_i e u' xs fr hg
   split at hc
   ·rename_i s y hy
    split at hc
    ·rename_i hst
     subst hst
     cases hc
     obtain⟨cs,h1,h2⟩:=LJ (P:=P) hI hp (hk _ _ hg) (bM hE hT).2 hy
     exact bd hI ho h1 (.val h2)
    ·cases hc
   ·cases hc
  ·cases hc
 ·cases hc
theorem NS (H:dP P E call w0 X Pr0 sl get γ Pr a w res r0 o vs v u) {T:TypeId} {i:Operand} {f:Nat} (hop:o.op = .field T i f):eH P w0 X Pr0 sl get γ Pr a w r0 o v u:=by
 obtain⟨hE,hI,hk,hfr,hv,hc⟩:=H
 rw[hop] at hv
 obtain⟨p,rfl,hp⟩:=fY hv
 unfold cf at hc
 simp only[hop] at hc
 have ho:execOp a.eval o=(do pure (.value (←Instr.field T (a.eval i) f))):=by simp only[execOp,hop]
 split at hc
 ·rename_i t hT
  split at hc
  ·rename_i hf
   split at hc
   ·rename_i v' hg
    cases hc
    obtain⟨s,cs,h1,h2⟩:=NQ (P:=P) (w:=w) (hI.tys hk) (bM hE hT).1 hp hf hg
    exact bd hI ho h1 (JZ h2)
   ·cases hc
  ·cases hc
 ·cases hc
theorem Fx (H:dP P E call w0 X Pr0 sl get γ Pr a w res r0 o vs v u) {T:TypeId} {i:Operand} {f:Nat} (hop:o.op = .fieldAddr T i f):eH P w0 X Pr0 sl get γ Pr a w r0 o v u:=by
 obtain⟨hE,hI,hk,hfr,hv,hc⟩:=H
 rw[hop] at hv
 obtain⟨p,rfl,hp⟩:=fY hv
 unfold cf at hc
 simp only[hop] at hc
 have ho:execOp a.eval o=(do pure (.value (←Instr.fieldAt T (a.eval i) f))):=by simp only[execOp,hop]
 split at hc
 ·rename_i t hT
  have hU:=(bM hE hT).1
  split at hc
  ·rename_i r s path
   split at hc
   ·rename_i o' s' hf
    split at hc
    ·rename_i hst
     cases hc
     generalize hx:a.eval i=x at *
     cases hp with
     | ptr h hp'=>exact bd hI ho (pN hU hf) (.ptr h (ww hp' hst hf))
    ·cases hc
   ·cases hc
  ·rename_i s x
   split at hc
   ·rename_i x' hx'
    obtain⟨rfl,rfl⟩:=eQ hx'
    split at hc
    ·rename_i s y hg
     cases hc
     obtain⟨s1,y1,o',he,hf,hcs⟩:=xY (L:=Ln Pr w) hg
     cases he
     generalize hx:a.eval i=x at *
     cases hp with
     | eptr h hcell =>
      obtain⟨c,h1,h2⟩:=hcs _ h
      refine bd hI ho (pN hU hf) (.eptr h1 fun j v hj => ?_)
      rw[Z8]
      exact hcell _ _ (h2 j v hj)
    ·cases hc
   ·cases hc
  ·rename_i r s n path
   split at hc
   ·rename_i o' s' hf
    split at hc
    ·rename_i hst
     cases hc
     generalize hx:a.eval i=x at *
     cases hp with
     | rptr h h0 hn hp' =>
      refine bd hI ho (pN hU hf) ?_
      rw[Z8]
      exact .rptr h h0 hn (ww hp' hst hf)
    ·cases hc
   ·cases hc
  ·cases hc
 ·cases hc
theorem HQ (H:dP P E call w0 X Pr0 sl get γ Pr a w res r0 o vs v u) {i:Operand} (hop:o.op = .nilCheck i):eH P w0 X Pr0 sl get γ Pr a w r0 o v u:=by
 obtain⟨hE,hI,hk,hfr,hv,hc⟩:=H
 rw[hop] at hv
 obtain⟨p,rfl,hp⟩:=fY hv
 unfold cf at hc
 simp only[hop] at hc
 have main : ∀ ad,a.eval i = .pointer (some ad)→zt P w0 X Pr0 o sl get γ Pr r0 a w p (bo get []):=by
  intro ad hx next Q h
  unfold Oper.wp
  have:(execOp a.eval o).run P w = .ok (.value (.pointer (some ad))) w:=by simp only[execOp,hop,hx,V0]
  rw[this]
  exact h _ γ Pr w (hx ▸ hp) hI (fun _ _=>rfl)
 generalize hx:a.eval i=x at *
 split at hc
 ·cases hc
  cases hp with
  | ptr h hp'=>exact main _ rfl
 ·cases hc
  cases hp with
  | eptr h hp'=>exact main _ rfl
 ·cases hc
  cases hp with
  | rptr h h0 hn hp'=>exact main _ rfl
 ·cases hc
theorem J0 (H:dP P E call w0 X Pr0 sl get γ Pr a w res r0 o vs v u) {i:Operand} {f:Nat} (hop:o.op = .extract i f):eH P w0 X Pr0 sl get γ Pr a w r0 o v u:=by
 obtain⟨hE,hI,hk,hfr,hv,hc⟩:=H
 rw[hop] at hv
 obtain⟨p,rfl,hp⟩:=fY hv
 unfold cf at hc
 simp only[hop] at hc
 have ho:execOp a.eval o=(do pure (.value (←Instr.extract (a.eval i) f))):=by simp only[execOp,hop]
 split at hc
 ·rename_i l
  split at hc
  ·rename_i v' hg
   cases hc
   generalize hx:a.eval i=x at *
   cases hp with
   | tup h =>
    obtain⟨u,h1,h2⟩:=sP h hg
    refine bd hI ho ?_ h2
    simp[Instr.extract,h1]
  ·cases hc
 ·cases hc
theorem HR (H:dP P E call w0 X Pr0 sl get γ Pr a w res r0 o vs v u) {fn:Fn} {first captured:Array Operand} (hop:o.op = .makeFunc fn first captured):eH P w0 X Pr0 sl get γ Pr a w r0 o v u:=by
 obtain⟨hE,hI,hk,hfr,hv,hc⟩:=H
 rw[hop] at hv
 unfold cf at hc
 simp only[hop] at hc
 have ho:execOp a.eval o=(do pure (.value (←Instr.makeFunc fn (first.map a.eval) (captured.map a.eval)))):=by simp only[execOp,hop]
 cases fn with
 | func g =>
  have hc':(match first.size with
   | 0=>cd (.fn g vs) []
   | _=>none)=some (v,u):=by
   rcases vs with _ | ⟨v1,_ | ⟨v2,_ | ⟨v3,vs⟩⟩⟩ <;> exact hc
  split at hc'
  ·rename_i hs
   cases hc'
   have hf:first = #[]:=Array.size_eq_zero_iff.1 hs
   subst hf
   have:(captured.map a.eval)=(captured.toList.map a.eval).toArray:=by
    apply ab_.1
    simp
   refine bd (u := .func (.func g) #[] (captured.toList.map a.eval).toArray) hI ho ?_ ?_
   ·rw[this,Array.map_empty]
    rfl
   refine .fn ?_
   simpa[cU] using hv
  ·cases hc'
 | _=>rcases vs with _ | ⟨v1,_ | ⟨v2,_ | ⟨v3,vs⟩⟩⟩ <;> cases hc
theorem Pu (H:dP P E call w0 X Pr0 sl get γ Pr a w res r0 o vs v u) {op:UnOp} {T:TypeId} {i:Operand} (hop:o.op = .unOp op T i):eH P w0 X Pr0 sl get γ Pr a w r0 o v u:=by
 obtain⟨hE,hI,hk,hfr,hv,hc⟩:=H
 rw[hop] at hv
 obtain⟨p,rfl,hp⟩:=fY hv
 unfold cf at hc
 simp only[hop] at hc
 have ho:execOp a.eval o=(do pure (.value (←Op.unary op (a.eval i)))):=by simp only[execOp,hop]
 split at hc
 ·cases hc
  rw[dd hp] at ho
  exact bd hI ho (by simp[Op.unary,Op.intArith]) dr
 ·cases hc
  rw[fD hp] at ho
  exact bd hI ho (by simp[Op.unary]) fC
 ·cases hc
  rw[dd hp] at ho
  exact bd hI ho (by simp only[Op.unary]; simp[go_sem]) dr
 ·cases hc
theorem Pv (H:dP P E call w0 X Pr0 sl get γ Pr a w res r0 o vs v u) {i j k:Operand} (hop:o.op = .pick i j k):eH P w0 X Pr0 sl get γ Pr a w r0 o v u:=by
 obtain⟨hE,hI,hk,hfr,hv,hc⟩:=H
 rw[hop] at hv
 obtain⟨p,q,r,rfl,hp,hq,hr⟩:=LK hv
 unfold cf at hc
 simp only[hop] at hc
 have ho : ∀ x,a.eval i = .bool x→(execOp a.eval o).run P w = .ok (.value (if x=true then a.eval j else a.eval k)) w:=fun x hx=>by
  simp only[execOp,hop,hx,asBool,U5,V0,T6]
 split at hc
 ·rename_i x y z
  cases hc
  refine kU hI (ho x (fD hp)) ?_
  rw[fD hq,fD hr]
  cases x
  ·exact fC
  ·exact fC
 ·rename_i x hne
  split at hc
  ·rename_i hx
   cases hc
   refine kU hI (ho x (fD hp)) ?_
   rw[S6 hx]
   exact hq
  ·rename_i hx
   cases hc
   refine kU hI (ho x (fD hp)) ?_
   rw[S4 hx]
   exact hr
 ·cases hc
theorem NT (H:dP P E call w0 X Pr0 sl get γ Pr a w res r0 o vs v u) {T:TypeId} {i j:Operand} (hop:o.op = .index T i j):eH P w0 X Pr0 sl get γ Pr a w r0 o v u:=by
 obtain⟨hE,hI,hk,hfr,hv,hc⟩:=H
 rw[hop] at hv
 obtain⟨p,q,rfl,hp,hq⟩:=mM hv
 unfold cf at hc
 simp only[hop] at hc
 have ho:execOp a.eval o=(do pure (.value (←Instr.index T (a.eval i) (a.eval j)))):=by simp only[execOp,hop]
 split at hc
 ·rename_i s k n hT
  split at hc
  ·rename_i h0
   split at hc
   ·rename_i h1
    cases hc
    rw[dt hp,dd hq] at ho
    refine bd hI ho ?_ dr
    rw[run_index_string _ _ _ _ _ (bM hE hT).1,dif_pos ⟨h0,h1⟩]
    have hs:V1 n < U1 s:=(Int.toNat_lt h0).2 h1
    simp[bt,hs]
   ·cases hc
  ·cases hc
 ·cases hc
theorem J1 (H:dP P E call w0 X Pr0 sl get γ Pr a w res r0 o vs v u) {S D:TypeId} {i:Operand} (hop:o.op = .convert S D i):eH P w0 X Pr0 sl get γ Pr a w r0 o v u:=by
 obtain⟨hE,hI,hk,hfr,hv,hc⟩:=H
 rw[hop] at hv
 obtain⟨p,rfl,hp⟩:=fY hv
 unfold cf at hc
 simp only[hop] at hc
 have ho:execOp a.eval o=(do pure (.value (←convert S D (a.eval i)))):=by simp only[execOp,hop]
 have hsome : ∀ {T t},cD E.ty T=some t → ∃ d,P.underlying T=some d:=fun h=>by
  obtain⟨d,hd,_⟩:=(bM hE h).2.agg
  exact⟨d,hd⟩
 split at hc
 ·rename_i t0 k k' n hS hD
  cases hc
  rw[dd hp] at ho
  obtain⟨d,hd⟩:=hsome hS
  refine bd hI ho ?_ dr
  simp only[convert,U5,run_underlying hd,run_underlying (bM hE hD).1,T6]
  cases d <;> simp[Conv.intToInt]
 ·rename_i t0 s hS hD
  cases hc
  rw[dt hp] at ho
  obtain⟨d,hd⟩:=hsome hS
  refine bd hI ho ?_ mJ
  simp only[convert,U5,run_underlying hd,run_underlying (bM hE hD).1,T6]
  cases d <;> simp
 ·rename_i e hS hD hne
  split at hc
  ·rename_i xs hl
   cases hc
   obtain⟨cs,hx,hrk⟩:=Pf hI hk hp hl
   rw[hx] at ho
   obtain⟨hs,hei,_,hu8⟩:=(bM hE hS).1
   have hcs:cs=[mk (.slice e (.int .u8)) cs]:=by
    obtain⟨A,cap,rfl,_⟩:=hrk
    rfl
   rw[hcs] at hrk
   exact bd hI ho (NR hs (hu8 rfl) (bM hE hD).1 hrk) mJ
  ·cases hc
 ·cases hc
end
end Go.Proofs.YtfffplonjaigkaaGreatDoor.Abs
namespace Go.Proofs.YtfffplonjaigkaaGreatDoor.Abs
open Go Go.RowKit
section
variable {P:Program} {E:ce} {call:(I:ap)→List SV→aB→Option (I.sh.den×I.bx.den)} {w0:World} {X:Nat→Prop} {Pr0:Nat→Nat→Prop} {sl:List SV} {get:Nat→Option aP} {γ:Nat→Option G} {Pr:Nat→Nat→Prop}
 {a:Act} {w:World} {res:aB} {r0:Nat} {o:Oper} {vs:List SV} {v:SV} {u:Up}
theorem RE {L:Lk} {e:TypeId} {t:Ty} {xs:List t.den} {u:Value} (h:RK L (.slice e t) xs [u]) {i:Nat} (hi:i < xs.length) :
  ∃ b o cap,u = .slice (some ⟨b,o,none⟩) xs.length cap ∧ ∃ c,RK L t (xs.getD i t.dflt) c ∧ ∀ j v,c[j]? = some v→L b (o+i*t.sz+j) v:=by
 obtain⟨A,cap,hu,hcap,hA⟩:=h
 cases hu
 obtain⟨b,o,rfl,hh⟩:=hA (by intro h; subst h; simp at hi)
 obtain⟨c,h1,h2⟩:=hh i hi
 refine⟨b,o,cap,rfl,c,?_,h2⟩
 rwa[V9,T9 hi,Z6]
theorem oT {T e:TypeId} {t:Ty} {k:IntKind} {n:Int} {b o len cap:Nat} (hU:jJ P T (.slice e t)) (h0:0≤n) (h1:n < len):(Instr.indexAt T (.slice (some ⟨b,o,none⟩) len cap) (.int k n)).run P w = .ok (.pointer (some ⟨b,o+n.toNat*t.sz,none⟩)) w:=by
 obtain⟨hT,hei,hsz,_⟩:=hU
 have hel:P.elem T=e:=by simp[Program.elem,hT]
 rw[run_indexAt_slice (h:=by rw[hel]; exact hT),S6 ⟨h0,h1⟩,hel,hei.sizeOf]
 simp only[T6,add_lit]
theorem Cr {L:Lk} (hI:bn w0 X Pr0 sl get γ Pr a w) {T e:TypeId} {t:Ty} {xs:List t.den} {k:IntKind} {n:Int} {x:Value} (hU:jJ P T (.slice e t)) (hx:RK L (.slice e t) xs [x]) (h0:0≤n) (h1:n < xs.length) :
  ∃ z,(Instr.indexAt T x (.int k n)).run P w = .ok z w∧RV L γ (.eptr t (xs.getD n.toNat t.dflt)) z:=by
 obtain⟨b,o,cap,rfl,c,h2,h3⟩:=RE hx (i:=n.toNat) (by omega)
 exact⟨_,oT hU h0 h1,.eptr h2 h3⟩
theorem NU {l n:Int} {len:Nat} (h0:0≤l) (h1:0≤n) (h2:n < (len:Int) - l) (h3:l < len):0≤l+n∧l+n < (len:Int)∧(l+n).toNat=l.toNat+n.toNat∧n < ((len - l.toNat:Nat):Int):=by omega
theorem NV {l:Int} {len:Nat} (h0:0≤l) (h3:l < len):(len:Int) - l=((len - l.toNat:Nat):Int):=by omega
theorem Fy (H:dP P E call w0 X Pr0 sl get γ Pr a w res r0 o vs v u) {T:TypeId} {i j:Operand} (hop:o.op = .indexAddr T i j):eH P w0 X Pr0 sl get γ Pr a w r0 o v u:=by
 obtain⟨hE,hI,hk,hfr,hv,hc⟩:=H
 rw[hop] at hv
 obtain⟨p,q,rfl,hp,hq⟩:=mM hv
 unfold cf at hc
 simp only[hop] at hc
 have ho:execOp a.eval o=(do pure (.value (←Instr.indexAt T (a.eval i) (a.eval j)))):=by simp only[execOp,hop]
 split at hc
 ·rename_i e t k n hT
  have hU:=(bM hE hT).1
  rw[dd hq] at ho
  split at hc
  ·rename_i r
   split at hc
   ·rename_i e' t' xs fr hg
    split at hc
    ·rename_i hst
     cases hst
     have hres:=hI.res r _ (hk _ _ hg)
     split at hc
     ·split at hc
      ·rename_i h0
       split at hc
       ·rename_i h1
        cases hc
        obtain⟨v',css,hv',he,hown,_⟩:=hres
        generalize hx:a.eval i=x at *
        cases hp with
        | row h =>
         rw[hv'] at h
         cases h
         rcases hown.2 with⟨rfl,hn⟩ | ⟨g,cap,cur,rfl,_,hh,hnc,_⟩
         ·exact V2 h1 (by rw[hn]; exact Int.not_lt.2 h0)
         ·have hp:RV (Ln Pr w) γ (.rptr r t n []) (.pointer (some ⟨g,n.toNat*t.sz+0,none⟩)) := .rptr hv' h0 h1 (by cases t <;> rfl)
          refine bd hI ho ?_ hp
          rw[oT hU h0 h1,Y5,au_]
       ·cases hc
      ·cases hc
     ·split at hc
      ·rename_i h0
       split at hc
       ·rename_i h1
        cases hc
        obtain⟨v',hv',hrk⟩:=sS (Pr':=Pr) hres (fun _ _ h=>h) (by
         obtain⟨v',css,hv',he,hown,hf⟩:=hres
         intro b hb
         refine hf rfl b ?_
         simpa[bj,hv'] using hb)
        generalize hx:a.eval i=x at *
        cases hp with
        | row h =>
         rw[hv'] at h
         cases h
         obtain⟨z,h2,h3⟩:=Cr (k:=k) hI hU hrk h0 h1
         exact bd hI ho h2 h3
       ·cases hc
      ·cases hc
    ·cases hc
   ·rename_i e' t' xs hg
    split at hc
    ·rename_i hst
     cases hst
     obtain⟨v',hv',hrk⟩:=hI.res r _ (hk _ _ hg)
     split at hc
     ·rename_i h0
      split at hc
      ·rename_i h1
       cases hc
       generalize hx:a.eval i=x at *
       cases hp with
       | row h =>
        rw[hv'] at h
        cases h
        obtain⟨z,h2,h3⟩:=Cr (k:=k) hI hU hrk h0 h1
        exact bd hI ho h2 h3
      ·cases hc
     ·cases hc
    ·cases hc
   ·rename_i e' l hg
    split at hc
    ·rename_i hst
     cases hst
     obtain⟨b,vs,hv',_⟩:=hI.res r _ (hk _ _ hg)
     split at hc
     ·rename_i h0
      split at hc
      ·rename_i h1
       cases hc
       generalize hx:a.eval i=x at *
       cases hp with
       | row h =>
        rw[hv'] at h
        cases h
        have hp:RV (Ln Pr w) γ (.rptr r .pt n []) (.pointer (some ⟨b,n.toNat*Ty.pt.sz+0,none⟩)) := .rptr hv' h0 h1 rfl
        refine bd hI ho ?_ hp
        rw[oT hU h0 h1,Y5,au_]
      ·cases hc
     ·cases hc
    ·cases hc
   ·cases hc
  ·rename_i s x
   split at hc
   ·rename_i xs hx
    obtain⟨rfl,rfl⟩:=eQ hx
    split at hc
    ·rename_i h0
     split at hc
     ·rename_i h1
      cases hc
      generalize hx:a.eval i=x at *
      cases hp with
      | val h =>
       rename_i cs
       have hcs:cs=[mk (.slice e t) cs]:=by
        obtain⟨A,cap,rfl,_⟩:=h
        rfl
       rw[hcs] at h
       obtain⟨z,h2,h3⟩:=Cr (k:=k) hI hU h h0 h1
       exact bd hI ho h2 h3
     ·cases hc
    ·cases hc
   ·cases hc
  ·rename_i r l
   split at hc
   ·rename_i e' t' xs hg
    split at hc
    ·rename_i hst
     cases hst
     split at hc
     ·rename_i h0
      split at hc
      ·rename_i h1
       cases hc
       have hres:=hI.res r _ (hk _ _ hg)
       obtain⟨v',css,hv',he,hown,_⟩:=hres
       generalize hx:a.eval i=x at *
       cases hp with
       | tail h hl0 hln hcap =>
        rename_i b m cap e2 t2
        rw[h] at hv'
        cases hv'
        rcases hown.2 with⟨hnil,_⟩ | ⟨g,cap',cur,hs,_⟩
        ·cases hnil
        ·cases hs
         obtain⟨g1,g2,g3,g4⟩:=NU hl0 h0 h1 hln
         have hp:RV (Ln Pr w) γ (.rptr r t (l+n) []) (.pointer (some ⟨b,V1 (l+n)*t.sz+0,none⟩)) := .rptr h g1 g2 (by cases t <;> rfl)
         refine bd hI ho ?_ hp
         rw[oT hU h0 g4,g3,au_,Nat.add_mul]
      ·cases hc
     ·cases hc
    ·cases hc
   ·cases hc
  ·cases hc
 ·cases hc
theorem LL (hE:d7 P E) {op:BinOp} {T:TypeId} {x y:SV} {p q:Value} {L:Lk} (hx:RV L γ x p) (hy:RV L γ y q) (h:sJ E op T x y cd=some (v,u)) :
  u=[]∧(∀ i j,(eqGuard op T i j p q).run P w = .ok () w) ∧ ∃ z,(binOp op T p q).run P w = .ok z w∧RV L γ v z:=by
 have hgd : ∀ {p q:Value},(∀ l,p ≠ .agg l)→(p = .nilIface→False) → ∀ i j,(eqGuard op T i j p q).run P w = .ok () w:=by
  intro p q h1 h2 i j
  cases op <;> first | rfl | (cases p <;> first | rfl | exact V2 rfl (h1 _) | exact V2 rfl h2 | (cases q <;> rfl))
 unfold sJ at h
 split at h
 ·rename_i k a k' b
  rw[dd hx,dd hy]
  have hx' : ∀ l,Value.int k a ≠ .agg l:=fun l h=>by cases h
  have hy':Value.int k a = .nilIface→False:=fun h=>by cases h
  split at h
  ·obtain⟨h1,h2⟩:=Fu (T:=T) (k':=k') (.inl rfl) h (P:=P) (w:=w) (L:=L) (γ:=γ)
   exact⟨h1,hgd hx' hy',h2⟩
  ·obtain⟨h1,h2⟩:=Fu (T:=T) (k':=k') (.inr rfl) h (P:=P) (w:=w) (L:=L) (γ:=γ)
   exact⟨h1,hgd hx' hy',h2⟩
  ·split at h
   ·rename_i hk
    subst hk
    obtain⟨h1,h2⟩:=LF (T:=T) h (P:=P) (w:=w) (L:=L) (γ:=γ)
    exact⟨h1,hgd hx' hy',h2⟩
   ·cases h
 ·rw[dt hx,dt hy]
  obtain⟨h1,h2⟩:=LG (T:=T) h (P:=P) (w:=w) (L:=L) (γ:=γ)
  exact⟨h1,hgd (fun l h=>by cases h) (fun h=>by cases h),h2⟩
 ·rw[fD hx,fD hy]
  refine⟨?_,hgd (fun l h=>by cases h) (fun h=>by cases h),?_⟩
  ·split at h <;> cases h <;> rfl
  ·split at h
   ·rename_i hT
    cases h
    have hu:P.underlying T=some .bool:=(bM hE hT).1
    exact⟨_,run_eql_bool w T _ _ hu,fC⟩
   ·rename_i hT
    cases h
    have hu:P.underlying T=some .bool:=(bM hE hT).1
    exact⟨_,run_neq_bool w T _ _ hu,fC⟩
   ·cases h
 ·split at h
  ·rename_i t hT
   obtain⟨⟨s0,rfl⟩,hg,heq⟩:=hE.eqs T t hT
   have hR:fE L γ [] (fun _=>True):=fun r e t xs _ hh=>by rcases hh with⟨_,hh⟩ | hh <;> cases hh
   split at h
   ·rename_i a' b' ha hb
    obtain⟨cs,rfl,kx⟩:=eZ hR (d':=9) (T7 _) (fun _ _=>trivial) hx ha
    obtain⟨ds,rfl,ky⟩:=eZ hR (d':=9) (T7 _) (fun _ _=>trivial) hy hb
    cases h
    have:=heq L _ _ _ _ w kx ky
    refine⟨rfl,fun i j=>run_eqGuard_agg w .eql T i j _ _ hg,_,?_,fC⟩
    show(binOp .eql T (.agg _) (.agg _)).run P w=_
    rw[run_eql_struct]
    have this:(Op.equalIn 10000 T (.agg _) (.agg _)).run P w=_:=this
    rw[this]
    rfl
   ·rename_i a' b' ha hb
    obtain⟨cs,rfl,kx⟩:=eZ hR (d':=9) (T7 _) (fun _ _=>trivial) hx ha
    obtain⟨ds,rfl,ky⟩:=eZ hR (d':=9) (T7 _) (fun _ _=>trivial) hy hb
    cases h
    have:=heq L _ _ _ _ w kx ky
    refine⟨rfl,fun i j=>run_eqGuard_agg w .neq T i j _ _ hg,_,?_,fC⟩
    show(binOp .neq T (.agg _) (.agg _)).run P w=_
    rw[run_neq_struct]
    have this:(Op.equalIn 10000 T (.agg _) (.agg _)).run P w=_:=this
    rw[this]
    rfl
   ·cases h
  ·cases h
theorem LM (hE:d7 P E) {op:BinOp} {T:TypeId} {x:SV} {p:Value} {L:Lk} {i:Operand} (hx:RV L γ x p) (h:sK E op T x cd=some (v,u)) :
  u=[]∧(eqGuard op T i (.const .nilIface) p .nilIface).run P w = .ok () w ∧ ∃ z,(binOp op T p .nilIface).run P w = .ok z w∧RV L γ v z:=by
 unfold sK at h
 split at h
 ·rename_i b hT
  obtain⟨ms,hu⟩ : ∃ ms,P.underlying T=some (.interface ms):=(bM hE hT).1
  have hp:(b=true∧p = .nilIface)∨(b=false ∧ ∃ T p',p = .iface T p'):=by
   cases hx with
   | val hk =>
    rcases hk with⟨h1,rfl⟩ | ⟨h1,T',p',rfl⟩
    ·exact .inl ⟨h1,rfl⟩
    ·exact .inr ⟨h1,T',p',rfl⟩
  have heq0 : ∀ d:Nat,(Op.equalIn (d+1) T p .nilIface).run P w = .ok b w:=fun d=>by
   rcases hp with⟨rfl,rfl⟩ | ⟨rfl,T',p',rfl⟩ <;> simp[Op.equalIn,run_underlying hu]
  have heq:(Op.equalIn 10000 T p .nilIface).run P w = .ok b w:=heq0 9999
  split at h
  ·cases h
   refine⟨rfl,?_,.bool b,?_,fC⟩
   ·rcases hp with⟨rfl,rfl⟩ | ⟨rfl,T',p',rfl⟩ <;> simp[eqGuard]
   ·rcases hp with⟨rfl,rfl⟩ | ⟨rfl,T',p',rfl⟩ <;> simp only[binOp,Op.equal,Op.maxDepth,U5,heq,T6] <;> rfl
  ·cases h
   refine⟨rfl,?_,.bool (Bool.not b),?_,fC⟩
   ·rcases hp with⟨rfl,rfl⟩ | ⟨rfl,T',p',rfl⟩ <;> simp[eqGuard]
   ·rcases hp with⟨rfl,rfl⟩ | ⟨rfl,T',p',rfl⟩ <;> simp only[binOp,Op.equal,Op.maxDepth,U5,heq,T6] <;> rfl
  ·cases h
 ·cases h
theorem NW (H:dP P E call w0 X Pr0 sl get γ Pr a w res r0 o vs v u) {op:BinOp} {T T':TypeId} {i j:Operand} (hop:o.op = .binOp op T i j T'):eH P w0 X Pr0 sl get γ Pr a w r0 o v u:=by
 obtain⟨hE,hI,hk,hfr,hv,hc⟩:=H
 rw[hop] at hv
 obtain⟨p,q,rfl,hp,hq⟩:=mM hv
 unfold cf at hc
 simp only[hop] at hc
 have ho:execOp a.eval o=(do pure (.value (←(do eqGuard op T i j (a.eval i) (a.eval j); binOp op T (a.eval i) (a.eval j))))):=by simp only[execOp,hop]
 split at hc
 ·rename_i hj
  obtain⟨rfl,hg,z,h3,h4⟩:=LM (w:=w) (i:=i) hE hp hc
  have hj':j = .const .nilIface:=by
   unfold Pd at hj
   split at hj
   ·rfl
   ·cases hj
  subst hj'
  refine bd hI ho ?_ h4
  have he:a.eval (.const .nilIface) = .nilIface:=rfl
  rw[he]
  simp only[U5,hg,T6,h3]
 obtain⟨rfl,hg,z,h3,h4⟩:=LL (w:=w) hE hp hq hc
 refine bd hI ho ?_ h4
 have hg:=hg i j
 simp only[U5,hg,T6,h3]
end
end Go.Proofs.YtfffplonjaigkaaGreatDoor.Abs
namespace Go.Proofs.YtfffplonjaigkaaGreatDoor.Abs
open Go Go.RowKit
def iX (γ:Nat→Option G) (k:Nat) (g:G):Nat→Option G:=fun s=>if s=k then some g else γ s
section
variable {w0:World} {X:Nat→Prop} {Pr0:Nat→Nat→Prop} {sl:List SV} {get:Nat→Option aP} {γ:Nat→Option G} {Pr Pr':Nat→Nat→Prop} {a:Act} {w w':World} {r0:Nat}
theorem uj (h:γ r0=none) {g:G} : ∀ r x,γ r=some x→iX γ r0 g r=some x:=fun r x hr=>by
 unfold iX
 by_cases hk:r=r0
 ·subst hk
  rw[h] at hr
  cases hr
 ·rw[S4 hk]
  exact hr
theorem bK {g:G}:iX γ r0 g r0=some g:=S6 rfl
theorem uk {g:G} {r:Nat} (h:r≠r0):iX γ r0 g r=γ r:=S4 h
theorem bn.none_of (hI:bn w0 X Pr0 sl get γ Pr a w) {r:Nat} (h:γ r=none):get r=none:=by
 cases hg:get r with
 | none=>rfl
 | some x =>
  obtain⟨g,hg⟩:=(hI.res r x hg).γsome
  rw[h] at hg
  cases hg
theorem bn.fresh (hI:bn w0 X Pr0 sl get γ Pr a w) (h0:γ r0=none) (row:Option Nat) (hg:w.grownBy w' row) (g:G) (hgs : ∀ e t v,g = .row e t v → ∃ A n c,v = .slice A n c) (hwf : ∀ b t,g = .box b t→cJ false t=true) (x':aP)
  (hrow : ∀ b,row=some b→(X b∨w0.heap.size≤b) ∧ ∀ r x,get r=some x→bj γ r x≠some b)
  (hP : ∀ b o,Pr b o→Pr' b o) (hP' : ∀ b o,Pr' b o→Pr b o∨bj (iX γ r0 g) r0 x'=some b∧fX x' o)
  (hcell : ∀ b o v,row=some b→Pr b o→w.cell? ⟨b,o,none⟩=some v→w'.cell? ⟨b,o,none⟩=some v)
  (hres:gC (Ln Pr' w') Pr' (iX γ r0 g) w' r0 x') (hblk : ∀ b,bj (iX γ r0 g) r0 x'=some b→row=some b∨w.heap.size≤b)
  (hloose : ∀ b,bj (iX γ r0 g) r0 x'=some b → ∀ o,Pr b o→fX x' o):bn w0 X Pr0 sl (fun s=>if s=r0 then some x' else get s) (iX γ r0 g) Pr' a w':=by
 refine hI.turn r0 (some x') row hg (uj h0) (fun r hr=>uk hr) ?_ (fun b t h=>hwf b t (by rw[bK] at h; simpa using h)) (fun b hb=>⟨(hrow b hb).1,fun r x _ hx=>(hrow b hb).2 r x hx⟩) hP ?_ hcell ?_ ?_
 ·intro e t v h
  rw[bK] at h
  exact hgs e t v (by simpa using h)
 ·intro b o h
  rcases hP' b o h with h | h
  ·exact .inl h
  ·exact .inr ⟨x',rfl,h⟩
 ·intro x hx
  cases hx
  exact hres
 ·intro x b hx hb
  cases hx
  refine⟨?_,?_,hloose b hb⟩
  ·rcases hblk b hb with h | h
   ·exact(hrow b h).1
   ·exact .inr (W7 hI.size h)
  ·intro r y hr hy
   rcases hblk b hb with h | h
   ·exact(hrow b h).2 r y hy
   ·intro hyb
    have:=(hI.res r y hy).lt hyb
    omega
theorem bn.newBox (hI:bn w0 X Pr0 sl get γ Pr a w) (h0:γ r0=none) {t:Ty} {c:SV} {cs:Array Value} {T:TypeId} (hwf:cJ false t=true) (hbT : ∀ T' s,t = .agg (.pair (.bp T') s)→T=T') (hc:RT (Ln Pr w) γ t c cs.toList) :
  bn w0 X Pr0 sl (fun s=>if s=r0 then some (.box t c) else get s) (iX γ r0 (.box w.heap.size t)) Pr a (w.alloc (.cells cs T)):=by
 refine hI.fresh h0 none (World.grownBy_alloc w _ none) _ (fun e t v h=>by cases h) (fun b t h=>by cases h; exact hwf) _ (fun b hb=>by cases hb) (fun _ _ h=>h) (fun b o h => .inl h) (fun b o v hb=>by cases hb) ?_ ?_ ?_
 ·refine⟨w.heap.size,cs,T,bK,heap_alloc_new w _,hbT,.inl (mI ?_ (uj h0) hc)⟩
  exact jK hI.prIn (World.grownBy_alloc w _ none) (fun _ _ h=>h) (fun b o v hb=>by cases hb)
 ·intro b hb
  simp only[bj,bK,U3] at hb
  exact .inr (by omega)
 ·intro b hb o ho
  simp only[bj,bK,U3] at hb
  have:=hI.prIn b o ho
  omega
theorem Pw {L:Lk} {t:Ty} {xs ys:List t.den} {css dss:List (List Value)} (h:hJ L t xs css) (k:hJ L t ys dss):hJ L t (xs++ys) (css++dss):=by
 refine⟨by rw[S5,S5,h.1,k.1],fun i hi hi' => ?_⟩
 by_cases hx:i < xs.length
 ·rw[bn_ hx,bn_ (by rw[h.1]; exact hx)]
  exact h.2 i hx _
 ·rw[bl_ (by omega),bl_ (by rw[h.1]; omega)]
  have:=k.2 (i - xs.length) (by rw[S5] at hi; omega) (by rw[k.1]; rw[S5] at hi; omega)
  simpa only[h.1] using this
theorem hJ.flat {L:Lk} {t:Ty} {xs:List t.den} {css:List (List Value)} (h:hJ L t xs css):css.flatten.length=xs.length*t.sz:=by
 rw[←h.1]
 have : ∀(l:List (List Value)),(∀ c∈l,c.length=t.sz)→l.flatten.length=l.length*t.sz:=by
  intro l
  induction l with
  | nil=>intro _; simp
  | cons c l ih =>
   intro hl
   rw[ar_,S5,T3,cp_,ih (fun d hd=>hl d (T8 _ hd)),hl c (by simp)]
   omega
 exact this css h.lens
theorem bn.newRow (hI:bn w0 X Pr0 sl get γ Pr a w) (h0:γ r0=none) {e:TypeId} {t:Ty} {xs:List t.den} {css:List (List Value)} {cs:Array Value} (hc:hJ (Ln Pr w) t xs css) (hf:css.flatten=cs.toList) (hm:xs.length≤maxLen) :
  bn w0 X Pr0 sl (fun s=>if s=r0 then some (.row e t xs false) else get s) (iX γ r0 (.row e t (.slice (some ⟨w.heap.size,0,none⟩) xs.length xs.length))) Pr a (w.alloc (.cells cs e)):=by
 refine hI.fresh h0 none (World.grownBy_alloc w _ none) _ (fun e t v h=>by cases h; exact⟨_,_,_,rfl⟩) (fun b t h=>by cases h) _ (fun b hb=>by cases hb) (fun _ _ h=>h) (fun b o h => .inl h) (fun b o v hb=>by cases hb) ?_ ?_ ?_
 ·refine⟨_,css,bK,jk (jK hI.prIn (World.grownBy_alloc w _ none) (fun _ _ h=>h) (fun b o v hb=>by cases hb)) hc,?_,fun h=>by cases h⟩
  rw[hf]
  refine World.ownsRow_lit w cs xs.length (Nat.zero_le _) hm ?_
  rw[←X4,←hf,hc.flat]
 ·intro b hb
  simp only[bj,bK,ao_,U3] at hb
  exact .inr (by omega)
 ·intro b hb o ho
  simp only[bj,bK,ao_,U3] at hb
  have:=hI.prIn b o ho
  omega
theorem bn.nilRow (hI:bn w0 X Pr0 sl get γ Pr a w) (h0:γ r0=none) {e:TypeId} {t:Ty} :
  bn w0 X Pr0 sl (fun s=>if s=r0 then some (.row e t [] false) else get s) (iX γ r0 (.row e t (.slice none 0 0))) Pr a w:=by
 refine hI.fresh h0 none ⟨rfl,rfl,rfl,T7 _,fun _ _ _=>rfl⟩ _ (fun e t v h=>by cases h; exact⟨_,_,_,rfl⟩) (fun b t h=>by cases h) _ (fun b hb=>by cases hb) (fun _ _ h=>h) (fun b o h => .inl h) (fun b o v hb=>by cases hb) ?_ ?_ ?_
 ·exact⟨_,[],bK,⟨rfl,fun i hi=>by simp at hi⟩,World.ownsRow_nil w 0 e t.sz,fun h=>by cases h⟩
 ·intro b hb
  simp[bj,bK,ao_] at hb
 ·intro b hb
  simp[bj,bK,ao_] at hb
theorem LN (hgs : ∀ r e t v,γ r=some (.row e t v) → ∃ A n c,v = .slice A n c) {L:Lk} {t:Ty} {v:SV} {cs:List Value} (h:RT L γ t v cs) : ∀ x∈cs,x.oneCell'=true:=by
 induction h using RT.rec (motive_2:=fun t _ cs _ => ∀ x∈cs,x.oneCell'=true) with
 | val h=>exact lI h
 | nilS =>
  intro x hx
  rw[U4.1 hx]
  rfl
 | row h =>
  intro x hx
  rw[U4.1 hx]
  obtain⟨A,n,c,rfl⟩:=hgs _ _ _ _ h
  rfl
 | strct h ih=>exact ih
 | nil=>rename_i x hx; simp at hx
 | cons h k ih1 ih2 =>
  rename_i x hx
  rcases W1.1 hx with hx | hx
  ·exact ih1 x hx
  ·exact ih2 x hx
theorem zx (hgs : ∀ r e t v,γ r=some (.row e t v) → ∃ A n c,v = .slice A n c) {L:Lk} {t:Ty} {v:SV} {cs:List Value} (h:RT L γ t v cs) (ht:t.sz=1 ∨ ∃ u,t = .agg u):(mk t cs).cells=cs.toArray:=by
 rcases ht with ht | ⟨u,rfl⟩
 ·obtain⟨x,rfl⟩:=bx_.1 ((d9 h).trans ht)
  have h1:=LN hgs h x (by simp)
  cases t <;> first | rfl | (show x.cells = #[x]; cases x <;> first | rfl | cases h1)
 ·rfl
end
theorem bn.rebind {w0:World} {X:Nat→Prop} {Pr0:Nat→Nat→Prop} {sl:List SV} {get:Nat→Option aP} {γ:Nat→Option G} {Pr:Nat→Nat→Prop} {a:Act} {w w':World} {r r0:Nat} (hI:bn w0 X Pr0 sl get γ Pr a w)
  {e:TypeId} {t:Ty} {xs xs':List t.den} {fr:Bool} {css':List (List Value)} {v v':Value} (hr:get r=some (.row e t xs fr)) (h0:γ r0=none) (hv:γ r=some (.row e t v)) (hg:w.grownBy w' v.ownBlock)
  (hown:w'.ownsRow 0 e t.sz v' xs'.length css'.flatten) (hels:hJ (Ln Pr w) t xs' css') (hcells:fr=true → ∀ b,v.ownBlock=some b → ∀ o,o < xs.length*t.sz→w'.cell? ⟨b,o,none⟩=w.cell? ⟨b,o,none⟩)
  (hgs : ∃ A n c,v' = .slice A n c) (hwh : ∀ b,v'.ownBlock=some b→v.ownBlock=some b∨w.heap.size≤b) (hlen:fr=true→xs.length≤xs'.length) :
  ∃ Pr',bn w0 X Pr0 sl (fun s=>if s=r0 then some (.row e t xs' fr) else if s=r then(Fb e t xs fr) else get s) (iX γ r0 (.row e t v')) Pr' a w' ∧ ∀ b o,Pr b o→Pr' b o:=by
 have hbr : ∀ b,v.ownBlock=some b→bj γ r (.row e t xs fr)=some b:=fun b hb=>by simp only[bj,hv,hb]
 have hI1:bn w0 X Pr0 sl (fun s=>if s=r then(Fb e t xs fr) else get s) γ Pr a w:=by
  refine hI.turn r _ none ⟨rfl,rfl,rfl,T7 _,fun _ _ _=>rfl⟩ (fun _ _ h=>h) (fun _ _=>rfl) (fun e t v h=>hI.gs r e t v h) (fun b t h=>hI.wfs r b t h) (fun b hb=>by cases hb) (fun b o h=>h) (fun b o h => .inl h) (fun b o v hb=>by cases hb) ?_ ?_
  ·intro x hx
   cases fr with
   | false=>cases hx
   | true =>
    cases hx
    have hres:=hI.res r _ hr
    exact sS hres (fun _ _ h=>h) (fun b hb o ho=>by
     obtain⟨v1,css,h1,h2,h3,h4⟩:=hres
     refine h4 rfl b ?_ o ho
     simpa[bj,h1] using hb)
  ·intro x b hx hb
   cases fr with
   | false=>cases hx
   | true =>
    cases hx
    cases hb
 have hne:r≠r0:=fun h=>by rw[←h,hv] at h0; cases h0
 have hother : ∀ b,v.ownBlock=some b→(X b∨w0.heap.size≤b) ∧ ∀ r' x,r'≠r0→(if r'=r then(Fb e t xs fr) else get r')=some x→bj γ r' x≠some b:=by
  intro b hb
  refine⟨hI.where_ r _ b hr (hbr b hb),fun r' x _ hx => ?_⟩
  by_cases hrr:r'=r
  ·rw[S6 hrr] at hx
   cases fr with
   | false=>cases hx
   | true =>
    cases hx
    intro h
    cases h
  ·rw[S4 hrr] at hx
   exact hI.apart r r' _ x b hr hx (fun e=>hrr e.symm) (hbr b hb)
 have hbl : ∀ b,bj (iX γ r0 (.row e t v')) r0 (.row e t xs' fr)=some b→v'.ownBlock=some b:=fun b hb=>by simpa[bj,bK] using hb
 refine⟨fun b o=>Pr b o∨(fr=true∧v'.ownBlock=some b∧o < xs'.length*t.sz),?_,fun b o h => .inl h⟩
 have hcell : ∀ b o u,v.ownBlock=some b→Pr b o→w.cell? ⟨b,o,none⟩=some u→w'.cell? ⟨b,o,none⟩=some u:=by
  intro b o u hb ho hu
  have hl:=hI.loose r _ b hr (hbr b hb) o ho
  cases fr with
  | false=>exact hl.elim
  | true =>
   rw[hcells rfl b hb o hl]
   exact hu
 refine hI1.turn r0 _ v.ownBlock hg (uj h0) (fun s hs=>uk hs) ?_ (fun b t h=>by rw[bK] at h; cases h) hother (fun b o h => .inl h) ?_ hcell ?_ ?_
 ·intro e' t' v1 h
  rw[bK] at h
  cases h
  exact hgs
 ·intro b o h
  rcases h with h | ⟨h1,h2,h3⟩
  ·exact .inl h
  ·refine .inr ⟨_,rfl,by simp[bj,bK,h2],?_⟩
   subst h1
   exact h3
 ·intro x hx
  cases hx
  refine⟨v',css',bK,jk ?_ hels,hown,fun h b hb o ho => .inr ⟨h,hb,ho⟩⟩
  exact jK hI.prIn hg (fun b o h => .inl h) hcell
 ·intro x b hx hb
  cases hx
  have hb':=hbl b hb
  rcases hwh b hb' with h | h
  ·obtain⟨h1,h2⟩:=hother b h
   refine⟨h1,h2,fun o ho => ?_⟩
   have hl:=hI.loose r _ b hr (hbr b h) o ho
   cases fr with
   | false=>exact hl.elim
   | true=>exact X1 hl (ae_ _ (hlen rfl))
  ·refine⟨.inr (W7 hI.size h),fun r' y _ hy hyb => ?_,fun o ho => ?_⟩
   ·have:=(hI1.res r' y hy).lt hyb
    omega
   ·have:=hI.prIn b o ho
    omega
section
variable {P:Program} {E:ce} {call:(I:ap)→List SV→aB→Option (I.sh.den×I.bx.den)} {w0:World} {X:Nat→Prop} {Pr0:Nat→Nat→Prop} {sl:List SV} {get:Nat→Option aP} {γ:Nat→Option G} {Pr:Nat→Nat→Prop}
 {a:Act} {w:World} {res:aB} {r0:Nat} {o:Oper} {vs:List SV} {v:SV} {u:Up}
theorem jl {g:G} : ∀ r,¬(r0≤r∧r < r0+64)→iX γ r0 g r=γ r:=fun r h=>uk (fun e=>h (by omega))
theorem jm : ∀(t:Ty),(∀(v:SV) (n:Nat),n≤(aK t v n).2.2)∧(∀(l:List SV) (n:Nat),n≤(aK.go t l n).2.2)
 | .int _=>⟨fun v n=>T7 _,fun l n=>T7 _⟩
 | .bool=>⟨fun v n=>T7 _,fun l n=>T7 _⟩
 | .str=>⟨fun v n=>T7 _,fun l n=>T7 _⟩
 | .err=>⟨fun v n=>T7 _,fun l n=>T7 _⟩
 | .fn=>⟨fun v n=>T7 _,fun l n=>T7 _⟩
 | .pt=>⟨fun v n=>T7 _,fun l n=>T7 _⟩
 | .bp _=>⟨fun v n=>T7 _,fun l n=>T7 _⟩
 | .unit=>⟨fun v n=>T7 _,fun l n=>T7 _⟩
 | .slice _ _=>⟨fun v n=>by cases v <;> first | exact T7 _ | exact Nat.le_succ _,fun l n=>T7 _⟩
 | .agg t=>⟨fun v n=>by
   cases v <;> first | exact T7 _ | skip
   rename_i l
   exact(jm t).2 l n,fun l n=>T7 _⟩
 | .pair x y=>⟨fun v n=>T7 _,fun l n=>by
   cases l with
   | nil=>exact T7 _
   | cons v l=>exact W7 ((jm x).1 v n) ((jm y).2 l (aK x v n).2.2)⟩
theorem Qt {L:Lk} {γ:Nat→Option G} {t:Ty} {l:List SV} {cs:List Value} (h:RT L γ t (.strct l) cs):RV L γ (.strct l) (.agg cs.toArray):=by
 cases h with
 | strct h=>exact .strct h
theorem jn : ∀(t:Ty),(∀(v:SV) (n:Nat) (t0:Ty) (cs:List Value) (get:Nat→Option aP) (γ:Nat→Option G),bn w0 X Pr0 sl get γ Pr a w→(∀ r,n≤r→r < (aK t v n).2.2→γ r=none)→RT (Ln Pr w) γ t0 v cs →
   ∃ γ' t',bn w0 X Pr0 sl (bo get (aK t v n).2.1) γ' Pr a w∧RT (Ln Pr w) γ' t' (aK t v n).1 cs∧(∀ r,¬(n≤r∧r < (aK t v n).2.2)→γ' r=γ r)∧(t0=t→t'=t)) ∧
  (∀(l:List SV) (n:Nat) (t0:Ty) (cs:List Value) (get:Nat→Option aP) (γ:Nat→Option G),bn w0 X Pr0 sl get γ Pr a w→(∀ r,n≤r→r < (aK.go t l n).2.2→γ r=none)→eG (Ln Pr w) γ t0 l cs →
   ∃ γ' t',bn w0 X Pr0 sl (bo get (aK.go t l n).2.1) γ' Pr a w∧eG (Ln Pr w) γ' t' (aK.go t l n).1 cs∧(∀ r,¬(n≤r∧r < (aK.go t l n).2.2)→γ' r=γ r)∧(t0=t→t'=t))
 | .int _=>⟨fun v n t0 cs get γ hI hf h=>⟨γ,t0,hI,h,fun _ _=>rfl,id⟩,fun l n t0 cs get γ hI hf h=>⟨γ,t0,hI,h,fun _ _=>rfl,id⟩⟩
 | .bool=>⟨fun v n t0 cs get γ hI hf h=>⟨γ,t0,hI,h,fun _ _=>rfl,id⟩,fun l n t0 cs get γ hI hf h=>⟨γ,t0,hI,h,fun _ _=>rfl,id⟩⟩
 | .str=>⟨fun v n t0 cs get γ hI hf h=>⟨γ,t0,hI,h,fun _ _=>rfl,id⟩,fun l n t0 cs get γ hI hf h=>⟨γ,t0,hI,h,fun _ _=>rfl,id⟩⟩
 | .err=>⟨fun v n t0 cs get γ hI hf h=>⟨γ,t0,hI,h,fun _ _=>rfl,id⟩,fun l n t0 cs get γ hI hf h=>⟨γ,t0,hI,h,fun _ _=>rfl,id⟩⟩
 | .fn=>⟨fun v n t0 cs get γ hI hf h=>⟨γ,t0,hI,h,fun _ _=>rfl,id⟩,fun l n t0 cs get γ hI hf h=>⟨γ,t0,hI,h,fun _ _=>rfl,id⟩⟩
 | .pt=>⟨fun v n t0 cs get γ hI hf h=>⟨γ,t0,hI,h,fun _ _=>rfl,id⟩,fun l n t0 cs get γ hI hf h=>⟨γ,t0,hI,h,fun _ _=>rfl,id⟩⟩
 | .bp _=>⟨fun v n t0 cs get γ hI hf h=>⟨γ,t0,hI,h,fun _ _=>rfl,id⟩,fun l n t0 cs get γ hI hf h=>⟨γ,t0,hI,h,fun _ _=>rfl,id⟩⟩
 | .unit=>⟨fun v n t0 cs get γ hI hf h=>⟨γ,t0,hI,h,fun _ _=>rfl,id⟩,fun l n t0 cs get γ hI hf h=>⟨γ,t0,hI,h,fun _ _=>rfl,id⟩⟩
 | .slice e t=>⟨fun v n t0 cs get γ hI hf h=>by
   cases h with
   | nilS =>
    have h0:γ n=none:=hf n (T7 _) (cr_ _)
    refine⟨iX γ n (.row e t (.slice none 0 0)),.slice e t,hI.nilRow h0,.row bK,fun r hr => ?_,fun _=>rfl⟩
    exact S4 (fun e=>hr (by subst e; exact⟨T7 _,cr_ _⟩))
   | val h=>exact⟨γ,t0,hI,.val h,fun _ _=>rfl,id⟩
   | row h=>exact⟨γ,_,hI,.row h,fun _ _=>rfl,id⟩
   | strct h=>exact⟨γ,_,hI,.strct h,fun _ _=>rfl,id⟩,fun l n t0 cs get γ hI hf h=>⟨γ,t0,hI,h,fun _ _=>rfl,id⟩⟩
 | .agg t=>⟨fun v n t0 cs get γ hI hf h=>by
   cases h with
   | strct h =>
    obtain⟨γ',t',h1,h2,h3,h4⟩:=(jn t).2 _ n _ cs get γ hI hf h
    exact⟨γ',.agg t',h1,.strct h2,h3,fun e=>by cases e; rw[h4 rfl]⟩
   | nilS =>
    rename_i e0 t1
    exact⟨γ,.slice e0 t1,hI,.nilS,fun _ _=>rfl,id⟩
   | val h=>exact⟨γ,t0,hI,.val h,fun _ _=>rfl,id⟩
   | row h=>exact⟨γ,_,hI,.row h,fun _ _=>rfl,id⟩,fun l n t0 cs get γ hI hf h=>⟨γ,t0,hI,h,fun _ _=>rfl,id⟩⟩
 | .pair x y=>⟨fun v n t0 cs get γ hI hf h=>⟨γ,t0,hI,h,fun _ _=>rfl,id⟩,fun l n t0 cs get γ hI hf h=>by
   cases h with
   | nil=>exact⟨γ,_,hI,.nil,fun _ _=>rfl,id⟩
   | cons hv hk =>
    rename_i ta tb v l c d
    have l1:=(jm x).1 v n
    have l2:=(jm y).2 l (aK x v n).2.2
    have hf' : ∀ r,n≤r→r < (aK.go y l (aK x v n).2.2).2.2→γ r=none:=hf
    obtain⟨γ1,t1,h1,h2,h3,q1⟩:=(jn x).1 v n ta c get γ hI (fun r hr1 hr2=>hf' r hr1 (by omega)) hv
    have hext : ∀ r g,γ r=some g→γ1 r=some g:=fun r g hg=>by
     rw[h3 r (fun hr=>by rw[hf' r hr.1 (by omega)] at hg; cases hg)]
     exact hg
    obtain⟨γ2,t2,h4,h5,h6,q2⟩:=(jn y).2 l (aK x v n).2.2 tb d _ γ1 h1 (fun r hr1 hr2=>by
     rw[h3 r (fun hr=>by omega)]
     exact hf' r (by omega) hr2) (ug (fun _ _ _ h=>h) hext hk)
    have hext2 : ∀ r g,γ1 r=some g→γ2 r=some g:=fun r g hg=>by
     by_cases hr:(aK x v n).2.2≤r∧r < (aK.go y l (aK x v n).2.2).2.2
     ·rw[h3 r (fun hr'=>by omega),hf' r (by omega) hr.2] at hg
      cases hg
     ·rw[h6 r hr]
      exact hg
    refine⟨γ2,.pair t1 t2,?_,.cons (mI (fun _ _ _ h=>h) hext2 h2) h5,fun r hr => ?_,fun e=>by cases e; rw[q1 rfl,q2 rfl]⟩
    ·show bn w0 X Pr0 sl (bo get ((aK x v n).2.1++(aK.go y l (aK x v n).2.2).2.1)) γ2 Pr a w
     rw[cp]
     exact h4
    ·have hr' : ¬(n≤r∧r < (aK.go y l (aK x v n).2.2).2.2):=hr
     rw[h6 r (fun h=>hr' ⟨by omega,h.2⟩),h3 r (fun h=>hr' ⟨h.1,by omega⟩)]⟩
theorem np : ∀(t:Ty),(∀(v:SV) (n:Nat),∀ p∈(aK t v n).2.1,n≤p.1∧p.1 < (aK t v n).2.2)∧(∀(l:List SV) (n:Nat),∀ p∈(aK.go t l n).2.1,n≤p.1∧p.1 < (aK.go t l n).2.2)
 | .int _=>⟨fun v n p hp=>by simp[aK] at hp,fun l n p hp=>by simp[aK.go] at hp⟩
 | .bool=>⟨fun v n p hp=>by simp[aK] at hp,fun l n p hp=>by simp[aK.go] at hp⟩
 | .str=>⟨fun v n p hp=>by simp[aK] at hp,fun l n p hp=>by simp[aK.go] at hp⟩
 | .err=>⟨fun v n p hp=>by simp[aK] at hp,fun l n p hp=>by simp[aK.go] at hp⟩
 | .fn=>⟨fun v n p hp=>by simp[aK] at hp,fun l n p hp=>by simp[aK.go] at hp⟩
 | .pt=>⟨fun v n p hp=>by simp[aK] at hp,fun l n p hp=>by simp[aK.go] at hp⟩
 | .bp _=>⟨fun v n p hp=>by simp[aK] at hp,fun l n p hp=>by simp[aK.go] at hp⟩
 | .unit=>⟨fun v n p hp=>by simp[aK] at hp,fun l n p hp=>by simp[aK.go] at hp⟩
 | .slice _ _=>⟨fun v n p hp=>by
   cases v <;> simp only[aK,List.not_mem_nil,U4] at hp ⊢
   subst hp
   exact⟨T7 _,cr_ _⟩,fun l n p hp=>by simp[aK.go] at hp⟩
 | .agg t=>⟨fun v n p hp=>by
   cases v <;> first | (simp only[aK,List.not_mem_nil] at hp; done) | skip
   exact(np t).2 _ n p hp,fun l n p hp=>by simp[aK.go] at hp⟩
 | .pair x y=>⟨fun v n p hp=>by simp[aK] at hp,fun l n p hp=>by
   cases l with
   | nil=>simp[aK.go] at hp
   | cons v l =>
    have hp':p∈(aK x v n).2.1++(aK.go y l (aK x v n).2.2).2.1:=hp
    have l1:=(jm x).1 v n
    have l2:=(jm y).2 l (aK x v n).2.2
    show n≤p.1∧p.1 < (aK.go y l (aK x v n).2.2).2.2
    rcases W1.1 hp' with hp | hp
    ·have:=(np x).1 v n p hp
     omega
    ·have:=(np y).2 l _ p hp
     omega⟩
theorem Fz : ∀ {u:Up} {get:Nat→Option aP} {r:Nat},(∀ p∈u,p.1≠r)→bo get u r=get r
 | [],_,_,_=>rfl
 | (k,x) :: u,get,r,h=>by
  show bo (fun s=>if s=k then x else get s) u r=get r
  rw[Fz (fun p hp=>h p (T8 _ hp))]
  exact S4 (fun e=>h (k,x) (by simp) e.symm)
theorem FA (t:Ty):dj t []=some (0,t):=by cases t <;> rfl
theorem NX (H:dP P E call w0 X Pr0 sl get γ Pr a w res r0 o vs v u) {T:TypeId} (hop:o.op = .alloc T):eH P w0 X Pr0 sl get γ Pr a w r0 o v u:=by
 obtain⟨hE,hI,hk,hfr,hv,hc⟩:=H
 unfold cf at hc
 simp only[hop] at hc
 have hc':(match cD E.ty T with
  | some t=>match aK t (gH t) (r0+1) with
   | (c,u,m)=>match Nat.ble m (r0+64) with | true=>cd (.ptr r0 t []) (u++[(r0,some (.box t c))]) | false=>none
  | none=>none)=some (v,u):=by
  rcases vs with _ | ⟨v1,_ | ⟨v2,_ | ⟨v3,vs⟩⟩⟩ <;> exact hc
 split at hc'
 ·rename_i t hT
  split at hc'
  rename_i c u' m hgr
  split at hc'
  ·rename_i hm
   cases hc'
   have hm:=aw_ hm
   have e1:(aK t (gH t) (r0+1)).1=c:=by rw[hgr]
   have e2:(aK t (gH t) (r0+1)).2.1=u':=by rw[hgr]
   have e3:(aK t (gH t) (r0+1)).2.2=m:=by rw[hgr]
   obtain⟨i,hi,hs,z,hz,hzc⟩:=(bM hE hT).2.info
   obtain⟨γ',t',hI',hrt,hγ,hty⟩:=(jn (w0:=w0) (X:=X) (Pr0:=Pr0) (sl:=sl) (Pr:=Pr) (a:=a) (w:=w) t).1 (gH t) (r0+1) t (zc t) get γ hI (fun r h1 h2=>hfr r (by omega) (by omega)) ((sU t).1 (bM hE hT).2.wf)
   have:=hty rfl
   subst this
   rw[e1] at hrt
   rw[e2] at hI'
   have h0:γ' r0=none:=by
    rw[hγ r0 (fun h=>by omega)]
    exact hfr r0 (T7 _) (by omega)
   have hbox:=hI'.newBox h0 (c:=c) (t:=t') (cs:=z.cells) (T:=T) (bM hE hT).2.wf (bM hE hT).2.bld (by rw[hzc]; exact hrt)
   refine gq (u := .pointer (some ⟨w.heap.size,0,none⟩)) (get':=bo get (u'++[(r0,some (.box t' c))])) (by rw[cp]; exact hbox) ?_ (.ptr bK (FA t')) (fun r hr=>(jl r hr).trans (hγ r (fun h=>hr ⟨by omega,by omega⟩)))
   simp only[execOp,hop,Instr.alloc,zeroValue,typeInfo,U5,run_program,hi,V0,T6,hz,newVar,newRow,run_newObj_alloc]
  ·cases hc'
 ·cases hc'
theorem Qu (H:dP P E call w0 X Pr0 sl get γ Pr a w res r0 o vs v u) {T:TypeId} {i:Operand} (hop:o.op = .box T i):eH P w0 X Pr0 sl get γ Pr a w r0 o v u:=by
 obtain⟨hE,hI,hk,hfr,hv,hc⟩:=H
 rw[hop] at hv
 obtain⟨p,rfl,hp⟩:=fY hv
 unfold cf at hc
 simp only[hop] at hc
 split at hc
 ·rename_i t hT
  split at hc
  ·rename_i hf
   generalize hgr:aK t (ff p) (r0+1)=gg at hc
   obtain⟨c,u',m⟩:=gg
   simp only at hc
   split at hc
   ·rename_i hm
    cases hc
    have hm:=aw_ hm
    have e1:(aK t (ff p) (r0+1)).1=c:=by rw[hgr]
    have e2:(aK t (ff p) (r0+1)).2.1=u':=by rw[hgr]
    have e3:(aK t (ff p) (r0+1)).2.2=m:=by rw[hgr]
    obtain⟨cs,hx,hrt⟩:=xZ (hI.tys hk) hp hf
    have hwf:=(bM hE hT).2.wf
    have hcells:=zx hI.gs hrt (bM hE hT).2.one
    have hsp:RT (Ln Pr w) γ t (ff p) cs:=rg hrt (fun u hu=>by subst hu; exact sT hwf)
    obtain⟨γ',t',hI',hrt',hγ,hty⟩:=(jn (w0:=w0) (X:=X) (Pr0:=Pr0) (sl:=sl) (Pr:=Pr) (a:=a) (w:=w) t).1 (ff p) (r0+1) t cs get γ hI (fun r h1 h2=>hfr r (by omega) (by omega)) hsp
    have:=hty rfl
    subst this
    rw[e1] at hrt'
    rw[e2] at hI'
    have h0:γ' r0=none:=by
     rw[hγ r0 (fun h=>by omega)]
     exact hfr r0 (T7 _) (by omega)
    have hbox:=hI'.newBox h0 (c:=c) (t:=t') (cs:=cs.toArray) (T:=T) hwf (bM hE hT).2.bld (by simpa using hrt')
    refine gq (u := .pointer (some ⟨w.heap.size,0,none⟩)) (get':=bo get (u'++[(r0,some (.box t' c))])) (by rw[cp]; exact hbox) ?_ (.ptr bK (FA t')) (fun r hr=>(jl r hr).trans (hγ r (fun h=>hr ⟨by omega,by omega⟩)))
    simp only[execOp,hop,Instr.box,hx,U5,V0,T6,newVar,newRow,run_newObj_alloc,hcells]
   ·cases hc
  ·cases hc
 ·cases hc
end
end Go.Proofs.YtfffplonjaigkaaGreatDoor.Abs
namespace Go.Proofs.YtfffplonjaigkaaGreatDoor.Abs
open Go Go.RowKit
section
variable {P:Program} {E:ce} {call:(I:ap)→List SV→aB→Option (I.sh.den×I.bx.den)} {w0:World} {X:Nat→Prop} {Pr0:Nat→Nat→Prop} {sl:List SV} {get:Nat→Option aP} {γ:Nat→Option G} {Pr:Nat→Nat→Prop}
 {a:Act} {w:World} {res:aB} {r0:Nat} {o:Oper} {vs:List SV} {v:SV} {u:Up}
inductive ya {α β:Type} (R:α→β→Prop):List α→List β→Prop
 | nil:ya R [] []
 | cons {x:α} {y:β} {l:List α} {m:List β} (h:R x y) (k:ya R l m):ya R (x :: l) (y :: m)
theorem FB (H:dP P E call w0 X Pr0 sl get γ Pr a w res r0 o vs v u) {i:Operand} (hop:o.op = .move i∨o.op = .assign i):eH P w0 X Pr0 sl get γ Pr a w r0 o v u:=by
 obtain⟨hE,hI,hk,hfr,hv,hc⟩:=H
 have hv':b8 (Ln Pr w) γ vs [a.eval i]:=by
  rcases hop with hop | hop <;> (rw[hop] at hv; exact hv)
 obtain⟨p,rfl,hp⟩:=fY hv'
 have ho:(execOp a.eval o).run P w = .ok (.value (a.eval i)) w:=by
  rcases hop with hop | hop <;> simp only[execOp,hop,V0]
 have hc':(match (generalizing:=false) p,cD E.ty o.type with
   | .nilS,some (.slice e t)=>cd (.row r0) [(r0,some (.row e t [] false))]
   | .strct l,some (.agg t)=>match aK (.agg t) (.strct l) r0 with
    | (v',u,m)=>match Nat.ble m (r0+64) with | true=>cd v' u | false=>none
   | _,_=>cd p [])=some (v,u):=by
  unfold cf at hc
  rcases hop with hop | hop <;> (simp only[hop] at hc; exact hc)
 split at hc'
 ·cases hc'
  have h0:γ r0=none:=hfr r0 (T7 _) (by omega)
  generalize hx:a.eval i=x at *
  cases hp with
  | nilS=>exact gq (hI.nilRow h0) ho (.row bK) jl
 ·rename_i l t hT
  split at hc'
  rename_i v' u' m hgr
  split at hc'
  ·rename_i hm
   cases hc'
   have hm:=aw_ hm
   generalize hx:a.eval i=x at *
   cases hp with
   | strct hl =>
    have e1:(aK (.agg t) (.strct l) r0).1=v:=by rw[hgr]
    have e2:(aK (.agg t) (.strct l) r0).2.1=u:=by rw[hgr]
    have e3:(aK (.agg t) (.strct l) r0).2.2=m:=by rw[hgr]
    obtain⟨γ',t',hI',hrt,hγ,_⟩:=(jn (.agg t)).1 (.strct l) r0 _ _ get γ hI (fun r h1 h2=>hfr r h1 (by omega)) (.strct hl)
    rw[e2] at hI'
    refine gq hI' ho ?_ (fun r hr=>hγ r (fun h=>hr ⟨h.1,by omega⟩))
    rw[←e1]
    exact Qt hrt
  ·cases hc'
 ·cases hc'
  exact kU hI ho hp
theorem Cs (hgs : ∀ r e t v,γ r=some (.row e t v) → ∃ A n c,v = .slice A n c) {L:Lk} (hr:lK γ res) {fs:List Field} {t:Ty} (hF:IR P fs t 0) (ht:cJ true t=true) {cP:Nat→Option (Nat×Nat)}
  (hpl : ∀ f fl s o,fs[f]? = some fl→cw t f=some (o,s)→cP f=some (o,s.sz)) :
  ∀(ps:List (Nat×SV)) (qs:List (Nat×Value)) (l l':List SV) (cs:Array Value),ya (fun p q=>p.1=q.1∧RV L γ p.2 q.2) ps qs→eG L γ t l cs.toList→kk res (jh t) ps l=some l' →
   ∃ cs',Instr.fill cP cs qs=some cs'∧eG L γ t l' cs'.toList
 | [],[],l,l',cs,_,hl,h=>by
  cases h
  exact⟨cs,rfl,hl⟩
 | (f,v) :: ps,(g,u) :: qs,l,l',cs,.cons hpq hps,hl,h=>by
  obtain⟨rfl,hv⟩:=hpq
  simp only[kk] at h
  split at h
  ·rename_i s hs
   split at h
   ·rename_i hf
    obtain⟨c,rfl,hc⟩:=xZ hr hv hf
    have hoff : ∀(t:Ty) (f:Nat) (s:Ty),(jh t)[f]? = some s → ∃ o,cw t f=some (o,s):=by
     intro t
     induction t with
     | pair a b _ ih =>
      intro f s hs
      cases f with
      | zero =>
       simp[jh] at hs
       exact⟨0,by simp[cw,hs]⟩
      | succ f =>
       obtain⟨o,ho⟩:=ih f s (by simpa[jh] using hs)
       exact⟨a.sz+o,by simp[cw,ho]⟩
     | _=>intro f s hs; simp[jh] at hs
    obtain⟨o,ho⟩:=hoff t f s hs
    obtain⟨fl,hfl,_,_,hi⟩:=sR hF ho
    have hone:s.sz=1 ∨ ∃ u,s = .agg u:=hi.one
    have hcells:=zx hgs hc hone
    have hlen:c.length=s.sz:=d9 hc
    have hadd:=zv ho
    have hcs:cs.size=t.sz:=by
     rw[←X4]
     exact Cn hl
    have hput:=Cq hl ho hc
    have hfold:((mk s c).cells.zipIdx.foldl (fun cs (c,j)=>cs.setIfInBounds (o+j) c) cs)=(aU cs.toList o c).toArray:=by
     rw[hcells]
     exact fold_splice c cs o (by omega)
    obtain⟨cs',h1,h2⟩:=Cs hgs hr hF ht hpl ps qs _ l' (aU cs.toList o c).toArray hps (by simpa using hput) h
    refine⟨cs',?_,h2⟩
    rw[Instr.fill,hpl f fl s o hfl ho]
    simp only
    rw[S4 (by rw[hcells]; simp[hlen]; omega)]
    rw[hfold]
    exact h1
   ·cases h
  ·cases h
where
 fold_splice (c:List Value) (cs:Array Value) (o:Nat) (h:o+c.length≤cs.size):(c.toArray.zipIdx.foldl (fun cs (c,j)=>cs.setIfInBounds (o+j) c) cs)=(aU cs.toList o c).toArray:=by
  have key : ∀(c:List Value) (k:Nat) (cs:Array Value),o+k+c.length≤cs.size→((c.zipIdx k).foldl (fun(cs:Array Value) (p:Value×Nat)=>cs.setIfInBounds (o+p.2) p.1) cs)=(aU cs.toList (o+k) c).toArray:=by
   intro c
   induction c with
   | nil =>
    intro k cs _
    simp[aU]
   | cons x c ih =>
    intro k cs h
    rw[T3] at h
    rw[List.zipIdx_cons,bm_,ih (k+1) _ (by simp; omega)]
    apply ab_.1
    apply cj_
    intro j
    rw[jM (by simp; omega),jM (by simp; omega)]
    simp only[Array.toList_setIfInBounds,List.getElem?_set,T3,X4]
    by_cases h1:o+(k+1)≤j∧j < o+(k+1)+c.length
    ·rw[S6 h1,S6 (by omega)]
     rw[show j - (o+k)=(j - (o+(k+1)))+1 by omega,List.getElem?_cons_succ]
    ·rw[S4 h1]
     by_cases h2:o+k=j
     ·subst h2
      rw[S6 rfl,S6 (by omega),S6 (by omega)]
      simp
     ·rw[S4 h2,S4 (by omega)]
  have:=key c 0 cs (by omega)
  rw[au_] at this
  rw[←this,←Array.foldl_toList]
  congr 1
  simp
theorem rR {L:Lk} : ∀ {ks:List Nat} {vs:List SV} {us:List Value},b8 L γ vs us→ya (fun(p:Nat×SV) (q:Nat×Value)=>p.1=q.1∧RV L γ p.2 q.2) (ks.zip vs) (ks.zip us)
 | [],_,_,_=>by simp only[List.zip_nil_left]; exact .nil
 | k :: ks,_,_,.nil=>by simp only[List.zip_nil_right]; exact .nil
 | k :: ks,_,_,.cons h hs=>by
  simp only[List.zip_cons_cons]
  exact .cons ⟨rfl,h⟩ (rR hs)
theorem I0 (l:List (Nat×Operand)) (f:Operand→Value):(l.map (·.1)).zip ((l.map (·.2)).map f)=l.map fun p=>(p.1,f p.2):=by
 induction l with
 | nil=>rfl
 | cons p l ih =>
  simp only[Y4,List.zip_cons_cons,ih]
theorem NY (H:dP P E call w0 X Pr0 sl get γ Pr a w res r0 o vs v u) {T:TypeId} {ps:Array (Nat×Operand)} (hop:o.op = .build T ps):eH P w0 X Pr0 sl get γ Pr a w r0 o v u:=by
 obtain⟨hE,hI,hk,hfr,hv,hc⟩:=H
 rw[hop] at hv
 unfold cf at hc
 simp only[hop] at hc
 have hc':(match cD E.ty T with
  | some (.agg t)=>match gH (.agg t) with
   | .strct l=>match kk res (jh t) ((ps.toList.map (·.1)).zip vs) l with
    | some l=>match sN t l with | some v=>cd v [] | none=>none
    | none=>none
   | _=>none
  | _=>none)=some (v,u):=by
  rcases vs with _ | ⟨v1,_ | ⟨v2,_ | ⟨v3,vs⟩⟩⟩ <;> exact hc
 split at hc'
 ·rename_i t hT
  obtain⟨hU,hi⟩:=bM hE hT
  split at hc'
  ·rename_i l hl
   split at hc'
   ·rename_i l' hb
    split at hc'
    ·rename_i v' hcl
     cases hc'
     obtain⟨fs,hfs,hF⟩:=hU
     obtain⟨i,hi1,hi2,z,hz,hzc⟩:=hi.info
     have hl':l=gH.go t:=by
      have:SV.strct (gH.go t)=SV.strct l:=hl
      cases this
      rfl
     have hd:eG (Ln Pr w) γ t l z.cells.toList:=by
      rw[hzc,hl']
      exact(sU t).2 hi.wf
     have hplace : ∀ f fl s o,fs.toList[f]? = some fl→cw t f=some (o,s)→(fs.map fun f=>(f.offset,(P.info? f.type).elim 0 (·.size)))[f]? = some (o,s.sz):=by
      intro f fl s o h1 h2
      obtain⟨fl',h3,h4,_,h5⟩:=sR hF h2
      rw[h1] at h3
      cases h3
      obtain⟨j,hj1,hj2,_⟩:=h5.info
      simp only[Array.getElem?_map]
      rw[←Y6,h1]
      simp[h4,hj1,hj2]
     have hf2:=rR (ks:=ps.toList.map (·.1)) (show b8 (Ln Pr w) γ vs ((ps.toList.map (·.2)).map a.eval) from hv)
     rw[I0] at hf2
     obtain⟨cs',h1,h2⟩:=Cs (P:=P) hI.gs (hI.tys hk) hF hi.wf hplace _ _ l l' z.cells hf2 hd hb
     have hfields : ∀(l:List Field) (t:Ty) (o:Nat),IR P l t o→(l.mapM fun f=>(do pure (f.offset,←sizeOf f.type):Sem (Nat×Nat))).run P w = .ok (l.map fun f=>(f.offset,(P.info? f.type).elim 0 (·.size))) w:=by
      intro l
      induction l with
      | nil=>intro t o _; simp
      | cons f l ih =>
       intro t o h
       cases t with
       | pair a b =>
        obtain⟨j,hj1,hj2,_⟩:=h.2.2.2.1.info
        simp only[List.mapM_cons,U5,h.2.2.2.1.sizeOf,T6,V0,ih b _ h.2.2.2.2,Y4,hj1,Option.elim,hj2]
       | _=>exact h.elim
     refine bd (u := .agg cs') (s:=Instr.build T (ps.map fun(i,x)=>(i,a.eval x))) hI (by simp only[execOp,hop]) ?_ (AM h2 hcl).1
     simp only[Instr.build,zeroValue,typeInfo,U5,run_program,hi1,V0,T6,hz,run_underlying hfs]
     rw[Array.mapM_eq_mapM_toList]
     simp only[U5,Sem.run_map,hfields _ _ _ hF]
     have e1:(List.map (fun f=>(f.offset,(P.info? f.type).elim 0 (·.size))) fs.toList).toArray=fs.map fun f=>(f.offset,(P.info? f.type).elim 0 (·.size)):=by
      apply ab_.1
      simp
     simp only[T6,e1,Array.toList_map]
     rw[h1]
     rfl
    ·cases hc'
   ·cases hc'
  ·cases hc'
 ·cases hc'
theorem gr (hI:bn w0 X Pr0 sl get γ Pr a w) (hk : ∀ r x,ay res r=some x→get r=some x) (rows:List Nat) :
  ∃ Pr',bn w0 X Pr0 sl (bo get (freeze res rows)) γ Pr' a w∧(∀ b o,Pr b o→Pr' b o)∧fE (Ln Pr' w) γ res (fun r=>r∈rows)∧(∀ r,r ∉ rows→bo get (freeze res rows) r=get r) ∧
   (∀ r e t xs fr,r∈rows→ay res r=some (.row e t xs fr)→bo get (freeze res rows) r=some (.row e t xs true))∧(∀ r,(∀ e t xs fr,get r≠some (.row e t xs fr))→bo get (freeze res rows) r=get r):=by
 obtain⟨Pr',hI',hP,_,h1,h2,h3,h4⟩:=bn.freeze_ok res rows (fun r x h=>⟨x,hk r x h,.inl rfl⟩) hI
 refine⟨Pr',hI',hP,?_,h4,h2,h1⟩
 refine RD hI' h2 ?_
 intro r e t xs h
 rw[h1 r (fun e' t' xs' fr' hh=>by rw[hk r _ h] at hh; cases hh)]
 exact hk r _ h
theorem jo {L:Lk} {e:TypeId} {t:Ty} {xs:List t.den} {cs:List Value} (h:RK L (.slice e t) xs cs) : ∃ A cap,cs=[.slice A xs.length cap]∧RK L (.slice e t) xs [.slice A xs.length cap]:=by
 obtain⟨A,cap,rfl,h1,h2⟩:=h
 exact⟨A,cap,rfl,A,cap,rfl,h1,h2⟩
theorem Qv {L:Lk} {e:TypeId} {t:Ty} {xs:List t.den} {A:Option Addr} {cap l h:Nat} (hr:RK L (.slice e t) xs [.slice A xs.length cap]) (h1:l≤h) (h2:h≤xs.length) :
  RK L (.slice e t) ((xs.take h).drop l) [sliced A l h cap t.sz]:=by
 obtain⟨A',cap',he,hc,hA⟩:=hr
 cases he
 have hlen:((xs.take h).drop l).length=h - l:=by
  rw[List.length_drop,Y9]
  omega
 refine⟨_,cap - l,by unfold sliced; rw[hlen],by rw[hlen]; omega,fun hne => ?_⟩
 have hlt:l < h:=by
  rcases Nat.lt_or_ge l h with h' | h'
  ·exact h'
  ·exact V2 (W8 (by rw[hlen]; omega)) hne
 obtain⟨b,o,rfl,hh⟩:=hA (by intro hx; subst hx; simp at h2; omega)
 refine⟨b,o+l*t.sz,?_,fun i hi => ?_⟩
 ·rw[S4 (by omega)]
  simp only[bc_,add_lit]
 ·rw[hlen] at hi
  obtain⟨c,h3,h4⟩:=hh (l+i) (by omega)
  refine⟨c,?_,fun j v hj => ?_⟩
  ·rw[List.getElem_drop,df_]
   exact h3
  ·have:=h4 j v hj
   rwa[Nat.add_mul,←Z8] at this
theorem um {T e:TypeId} {t:Ty} {A:Option Addr} {n cap:Nat} {lo hi:Option Int} {kl kh:IntKind} (hU:jJ P T (.slice e t)) (hn:n≤cap) (h1:0≤lo.getD 0) (h2:lo.getD 0≤hi.getD n) (h3:hi.getD n≤n) :
  (Instr.sliceAt T (.slice A n cap) (lo.map (.int kl)) (hi.map (.int kh)) none).run P w = .ok (sliced A (lo.getD 0).toNat (hi.getD n).toNat cap t.sz) w:=by
 obtain⟨hT,hei,_⟩:=hU
 have hel:P.elem T=e:=by simp[Program.elem,hT]
 have hT':P.underlying T=some (.slice (P.elem T)):=by rw[hel]; exact hT
 rw[run_sliceAt_slice _ _ _ _ _ _ hT']
 cases lo <;> cases hi <;> simp only[Option.map_none,bc_,dm_,Z6] at h1 h2 h3 ⊢
 ·rw[run_slice_all _ _ _ _ _ hT',hel,hei.sizeOf]
  rfl
 ·rw[run_slice_h _ _ _ _ _ hT' _ _ h2 (by omega),hel,hei.sizeOf]
  rfl
 ·rw[run_slice_l _ _ _ _ _ hT' _ _ h1 h2,hel,hei.sizeOf]
  rfl
 ·rw[run_slice_lh _ _ _ _ _ hT' _ _ _ _ h1 h2 (by omega),hel,hei.sizeOf]
  rfl
theorem J2 {e:TypeId} {t:Ty} {xs:List t.den} {lo hi:Option Int} {u0:Up} (h:iR e t xs lo hi u0 cd=some (v,u)) :
  u=u0∧0≤lo.getD 0∧lo.getD 0≤hi.getD xs.length∧hi.getD xs.length≤xs.length∧v = .val (.slice e t) ((xs.take (hi.getD xs.length).toNat).drop (lo.getD 0).toNat):=by
 unfold iR at h
 split at h
 ·cases h
  refine⟨rfl,af_ _,Int.natCast_nonneg _,af_ _,?_⟩
  simp
 ·split at h
  ·split at h
   ·cases h
    refine⟨rfl,af_ _,by assumption,by assumption,?_⟩
    simp
   ·cases h
  ·cases h
 ·split at h
  ·split at h
   ·cases h
    refine⟨rfl,by assumption,by assumption,af_ _,?_⟩
    simp
   ·cases h
  ·cases h
 ·split at h
  ·split at h
   ·split at h
    ·split at h
     ·cases h
      exact⟨rfl,by assumption,by assumption,by assumption,rfl⟩
     ·cases h
    ·cases h
   ·cases h
  ·cases h
theorem AN {L:Lk} {T e:TypeId} {t:Ty} {xs:List t.den} {lo hi:Option Int} {kl kh:IntKind} {u0:Up} {x:Value} (hU:jJ P T (.slice e t)) (hx:RK L (.slice e t) xs [x]) (h:iR e t xs lo hi u0 cd=some (v,u)) :
  u=u0 ∧ ∃ z,(Instr.sliceAt T x (lo.map (.int kl)) (hi.map (.int kh)) none).run P w = .ok z w∧RV L γ v z:=by
 obtain⟨rfl,h1,h2,h3,rfl⟩:=J2 h
 obtain⟨A,cap,he,hr⟩:=jo hx
 cases he
 refine⟨rfl,_,um hU (by obtain⟨_,_,he,hc,_⟩:=hr; cases he; exact hc) h1 h2 h3,?_⟩
 exact RV.val (t := .slice e t) (Qv hr (by omega) (by omega))
theorem LO {L:Lk} {T:TypeId} {s:S0} {lo hi:Option Int} {kl kh:IntKind} (hU:P.underlying T=some .string) (h:sL s lo hi cd=some (v,u)) :
  u=[] ∧ ∃ z,(Instr.sliceAt T (.string s) (lo.map (.int kl)) (hi.map (.int kh)) none).run P w = .ok z w∧RV L γ v z:=by
 have key : ∀ l h:Int,0≤l→l≤h→h≤s.size→lo.getD 0=l→hi.getD s.size=h→(Instr.sliceAt T (.string s) (lo.map (.int kl)) (hi.map (.int kh)) none).run P w = .ok (.string (s.extract l.toNat h.toNat)) w:=by
  intro l h h1 h2 h3 h4 h5
  have hb:(Instr.sliceBounds false s.size s.size (lo.map (.int kl)) (hi.map (.int kh)) none).run P w = .ok (l.toNat,h.toNat,s.size) w:=by
   subst h4 h5
   have hh:((hi.getD s.size).toNat:Int)=hi.getD s.size:=Int.toNat_of_nonneg (by omega)
   cases lo <;> cases hi <;> simp only[Option.map_none,bc_,dm_,Z6] at h1 h2 h3 hh ⊢ <;>
    simp only[Instr.sliceBounds,U5,V0,T6]
   ·rfl
   ·rw[run_sliceBound _ _ _ _ _ h2 h3]
    rfl
   ·rw[run_sliceBound _ _ _ _ _ h1 h2]
    rfl
   ·rw[run_sliceBound _ _ _ _ _ (by omega) h3]
    simp only[T6]
    rw[run_sliceBound _ _ _ _ _ h1 (by omega)]
    rfl
  rw[run_sliceAt_string _ _ _ _ _ _ hU]
  simp[Instr.slice,run_underlying hU,hb]
 unfold sL at h
 split at h
 ·cases h
  refine⟨rfl,_,key 0 s.size (af_ _) (Int.natCast_nonneg _) (af_ _) rfl rfl,?_⟩
  have:s.extract (V1 0) (V1 s.size)=s:=by simp
  rw[this]
  exact mJ
 ·split at h
  ·split at h
   ·cases h
    exact⟨rfl,_,key 0 _ (af_ _) (by assumption) (by assumption) rfl rfl,mJ⟩
   ·cases h
  ·cases h
 ·split at h
  ·split at h
   ·cases h
    exact⟨rfl,_,key _ s.size (by assumption) (by assumption) (af_ _) rfl rfl,mJ⟩
   ·cases h
  ·cases h
 ·split at h
  ·split at h
   ·split at h
    ·split at h
     ·cases h
      exact⟨rfl,_,key _ _ (by assumption) (by assumption) (by assumption) rfl rfl,mJ⟩
     ·cases h
    ·cases h
   ·cases h
  ·cases h
theorem lM {α:Type} : ∀ {css:List (List α)} {n k:Nat},(∀ c∈css,c.length=n)→(css.take k).flatten=css.flatten.take (k*n)
 | [],n,k,_=>by simp
 | c :: css,n,0,_=>by simp
 | c :: css,n,k+1,h=>by
  have hc:c.length=n:=h c (by simp)
  rw[List.take_succ_cons,ar_,ar_,lM (fun d hd=>h d (T8 _ hd)),cq_,cp_,hc]
  rw[List.take_of_length_le (l:=c) (by omega),Nat.add_sub_cancel]
theorem hO {L:Lk} {x:Option SV} {y:Option Value} {n:Option Int} (h:nQ x=some n) (hx : ∀ z,x=some z → ∃ u,y=some u∧RV L γ z u) (hn:x=none→y=none) : ∃ k,y=n.map (.int k):=by
 cases x with
 | none =>
  cases h
  exact⟨.i64,hn rfl⟩
 | some z =>
  obtain⟨u,rfl,hu⟩:=hx z rfl
  simp only[nQ,S7] at h
  obtain⟨⟨k,m⟩,hz,he⟩:=h
  cases he
  unfold Pc at hz
  split at hz
  ·cases hz
   rw[dd hu]
   exact⟨_,rfl⟩
  ·cases hz
theorem NZ (H:dP P E call w0 X Pr0 sl get γ Pr a w res r0 o vs v u) {T:TypeId} {i:Operand} {lo hi mx:Option Operand} (hop:o.op = .slice T i lo hi mx):eH P w0 X Pr0 sl get γ Pr a w r0 o v u:=by
 obtain⟨hE,hI,hk,hfr,hv,hc⟩:=H
 rw[hop] at hv
 cases hv with
 | cons hp hrest =>
  rename_i p is
  have hc':(match (generalizing:=false) cD E.ty T,mx with
   | some ty,none=>match Fk E T o.dst with
    | true=>sM lo hi ty p is res cd
    | false=>match IL E T o.dst with
     | true=>po ty (match (generalizing:=false) lo with | some _=>is.head? | none=>none) (match (generalizing:=false) hi with | some _=>is.getLast? | none=>none) p res cd
     | false=>pn ty (match (generalizing:=false) lo with | some _=>is.head? | none=>none) (match (generalizing:=false) hi with | some _=>is.getLast? | none=>none) p res r0 cd
   | _,_=>none)=some (v,u):=by
   unfold cf at hc
   simp only[hop] at hc
   rcases is with _ | ⟨v2,_ | ⟨v3,vs⟩⟩ <;> exact hc
  have ho:execOp a.eval o=(do pure (.value (←Instr.sliceAt T (a.eval i) (lo.map a.eval) (hi.map a.eval) (mx.map a.eval)))):=by simp only[execOp,hop]
  split at hc'
  ·rename_i ty hT
   obtain⟨hU,hi'⟩:=bM hE hT
   split at hc'
   ·unfold sM at hc'
    split at hc'
    ·rename_i lo0 e0 t0 r
     split at hc'
     ·rename_i e t xs kl l hg
      split at hc'
      ·rename_i hst
       cases hst
       split at hc'
       ·rename_i h0
        split at hc'
        ·rename_i h1
         cases hc'
         have h0 : @LE.le Int _ 0 l:=h0
         have h1 : @LT.lt Int _ l (List.length xs:Int):=h1
         have hrest':b8 (Ln Pr w) γ [SV.val (.int kl) l] ([lo0].map a.eval):=by simpa using hrest
         have hq1:a.eval lo0 = .int kl l:=by
          cases hrest' with
          | cons h1 _=>exact dd h1
         obtain⟨v',css,hv',hels,hown,hf⟩:=hI.res r _ (hk r _ hg)
         generalize hx:a.eval i=x at *
         cases hp with
         | row hrow =>
          rw[hv'] at hrow
          cases hrow
          rcases hown.2 with⟨rfl,hn⟩ | ⟨g,cap,cur,rfl,hb,hheap,hnc,hcm,hcs,htake⟩
          ·omega
          ·refine kU hI ?_ (.tail hv' h0 h1 hnc)
           rw[ho]
           have hs:=um (P:=P) (w:=w) (A:=some ⟨g,0,none⟩) (lo:=some l) (hi:=none) (kl:=kl) (kh := .i64) hU hnc h0 (by simp only[Z6,dm_]; omega) (af_ _)
           have hsl:sliced (some ⟨g,0,none⟩) (Option.getD (some l) 0).toNat (Option.getD (none:Option Int) (xs.length:Int)).toNat cap t0.sz = .slice (some ⟨g,l.toNat*t0.sz,none⟩) (xs.length - l.toNat) (cap - l.toNat):=by
            simp only[dm_,Z6,sliced,Int.toNat_natCast]
            rw[S4 (by omega)]
            simp only[bc_,add_lit,Y5]
           rw[hsl] at hs
           simp only[Option.map_none,bc_,hq1] at hs ⊢
           simp only[U5,hs,T6,V0]
        ·cases hc'
       ·cases hc'
      ·cases hc'
     ·cases hc'
    ·cases hc'
   obtain⟨p',hpe⟩ : ∃ p',p'=p:=⟨p,rfl⟩
   have hbounds:(∀ n,nQ (match lo with | some _=>is.head? | none=>none)=some n → ∃ k,lo.map a.eval=n.map (.int k))∧(∀ n,nQ (match hi with | some _=>is.getLast? | none=>none)=some n → ∃ k,hi.map a.eval=n.map (.int k)):=by
    have hrest':b8 (Ln Pr w) γ is ((lo.toList++hi.toList).map a.eval):=by simpa using hrest
    cases lo with
    | none=>cases hi with
     | none =>
      cases hrest'
      exact⟨fun n h=>hO (L:=Ln Pr w) (γ:=γ) h (fun z hz=>by cases hz) (fun _=>rfl),fun n h=>hO (L:=Ln Pr w) (γ:=γ) h (fun z hz=>by cases hz) (fun _=>rfl)⟩
     | some y =>
      obtain⟨q,rfl,hq⟩:=fY hrest'
      exact⟨fun n h=>hO (L:=Ln Pr w) (γ:=γ) h (fun z hz=>by cases hz) (fun _=>rfl),fun n h=>hO (L:=Ln Pr w) (γ:=γ) h (fun z hz=>by cases hz; exact⟨_,rfl,hq⟩) (fun h=>by cases h)⟩
    | some x=>cases hi with
     | none =>
      obtain⟨q,rfl,hq⟩:=fY hrest'
      exact⟨fun n h=>hO (L:=Ln Pr w) (γ:=γ) h (fun z hz=>by cases hz; exact⟨_,rfl,hq⟩) (fun h=>by cases h),fun n h=>hO (L:=Ln Pr w) (γ:=γ) h (fun z hz=>by cases hz) (fun _=>rfl)⟩
     | some y =>
      obtain⟨q,q',rfl,hq,hq'⟩:=mM hrest'
      exact⟨fun n h=>hO (L:=Ln Pr w) (γ:=γ) h (fun z hz=>by cases hz; exact⟨_,rfl,hq⟩) (fun h=>by cases h),fun n h=>hO (L:=Ln Pr w) (γ:=γ) h (fun z hz=>by cases hz; exact⟨_,rfl,hq'⟩) (fun h=>by cases h)⟩
   split at hc'
   ·unfold po at hc'
    split at hc'
    ·rename_i l h e t hl hh
     subst hpe
     obtain⟨kl,el⟩:=hbounds.1 _ hl
     obtain⟨kh,eh⟩:=hbounds.2 _ hh
     rw[el,eh] at ho
     split at hc'
     ·rename_i xs hx
      obtain⟨Pr',hI',hP,hR,_⟩:=gr hI hk (cG 9 p')
      obtain⟨cs,hx',hrk⟩:=eZ hR (d':=9) (by omega) (fun r hr=>hr) (pu (fun b o v h=>⟨hP _ _ h.1,h.2⟩) (fun _ _ h=>h) hp) hx
      obtain⟨A,cap,rfl,hrk'⟩:=jo hrk
      rw[hx'] at ho
      obtain⟨rfl,z,h1,h2⟩:=AN (P:=P) (w:=w) (γ:=γ) (kl:=kl) (kh:=kh) hU hrk' hc'
      refine kU hI' ?_ h2
      rw[ho]
      have h1':(Instr.sliceAt T (mk (.slice e t) [.slice A (xs:List t.den).length cap]) (Option.map (Value.int kl) l) (Option.map (Value.int kh) h) (Option.map a.eval none)).run P w = .ok z w:=h1
      simp only[U5,h1',T6,V0]
     ·cases hc'
    ·cases hc'
   unfold pn at hc'
   split at hc'
   ·rename_i l h s hl hh
    obtain⟨kl,el⟩:=hbounds.1 _ hl
    obtain⟨kh,eh⟩:=hbounds.2 _ hh
    rw[el,eh,dt hp] at ho
    obtain⟨rfl,z,h1,h2⟩:=LO (P:=P) (w:=w) (L:=Ln Pr w) (γ:=γ) (kl:=kl) (kh:=kh) hU hc'
    exact bd hI ho h1 h2
   ·rename_i h e0 t0 r hl hh
    obtain⟨kl,el⟩:=hbounds.1 _ hl
    obtain⟨kh,eh⟩:=hbounds.2 _ hh
    rw[el,eh] at ho
    split at hc'
    ·rename_i e t xs hg
     split at hc'
     ·rename_i hst
      cases hst
      split at hc'
      ·rename_i h0
       split at hc'
       ·rename_i h1
        cases hc'
        obtain⟨v',css,hv',hels,hown,hf⟩:=hI.res r _ (hk r _ hg)
        have h00:γ r0=none:=hfr r0 (T7 _) (by omega)
        generalize hx:a.eval i=x at *
        cases hp with
        | row hrow =>
         rw[hv'] at hrow
         cases hrow
         have hh:h.toNat≤xs.length:=by omega
         obtain⟨A,cap,rfl,hcap,hA⟩ : ∃ A cap,v' = .slice A xs.length cap∧xs.length≤cap∧w.ownsRow 0 e0 t0.sz (.slice A h.toNat cap) (xs.take h.toNat).length (css.take h.toNat).flatten:=by
          have hl:(xs.take h.toNat).length=h.toNat:=by rw[Y9]; omega
          have hfl:(css.take h.toNat).flatten.length=h.toNat*t0.sz:=by
           rw[lM hels.lens,Y9,hels.flat]
           exact Nat.min_eq_left (ae_ _ hh)
          rcases hown.2 with⟨rfl,hn⟩ | ⟨g,cap,cur,rfl,hb,hheap,hnc,hcm,hcs,htake⟩
          ·refine⟨none,0,by rw[hn],by omega,by rw[hl]; exact hfl,.inl ⟨?_,by omega⟩⟩
           rw[show h.toNat=0 by omega]
          ·refine⟨some ⟨g,0,none⟩,cap,rfl,hnc,by rw[hl]; exact hfl,.inr ⟨g,cap,cur,by rw[hl],hb,hheap,by omega,hcm,hcs,?_⟩⟩
           rw[lM hels.lens,hl,←htake,List.take_take]
           congr 1
           exact(Nat.min_eq_left (ae_ _ hh)).symm
         have hels':hJ (Ln Pr w) t0 (xs.take h.toNat) (css.take h.toNat):=by
          refine⟨by rw[Y9,Y9,hels.1],fun j hj hj' => ?_⟩
          rw[df_,df_]
          exact hels.2 j (by rw[Y9] at hj; omega) (by rw[Y9] at hj'; omega)
         obtain⟨Pr',hI',hP'⟩:=hI.rebind (r0:=r0) (xs':=xs.take h.toNat) (css':=css.take h.toNat) (w':=w) (hk r _ hg) h00 hv' ⟨rfl,rfl,rfl,T7 _,fun _ _ _=>rfl⟩ hA hels' (fun h=>by cases h) ⟨_,_,_,rfl⟩ (fun b hb => .inl (by cases A <;> exact hb)) (fun h=>by cases h)
         ·refine gq (u := .slice A h.toNat cap) (γ':=iX γ r0 (.row e0 t0 (.slice A h.toNat cap))) (w':=w) (Pr':=Pr') hI' ?_ (.row bK) jl
          ·rw[ho]
           have hs:=um (P:=P) (w:=w) (A:=A) (lo:=none) (hi:=some h) (kl:=kl) (kh:=kh) hU hcap (af_ _) h0 h1
           have hsl:sliced A (Option.getD (none:Option Int) 0).toNat (Option.getD (some h) (xs.length:Int)).toNat cap t0.sz = .slice A h.toNat cap:=by
            simp only[dm_,Z6,sliced,Int.toNat_zero,Nat.sub_zero,Nat.zero_mul]
            split
            ·rfl
            ·cases A with
             | none=>rfl
             | some ad =>
              simp only[bc_]
              have:ad.add 0=ad:=by unfold Addr.add; simp
              rw[this]
           rw[hsl] at hs
           simp only[Option.map_none] at hs ⊢
           simp only[U5,hs,T6,V0]
       ·cases hc'
      ·cases hc'
     ·cases hc'
    ·rename_i e t xs hg
     split at hc'
     ·rename_i hst
      cases hst
      have hres:=hI.res r _ (hk r _ hg)
      obtain⟨v',hv',hrk⟩:=sS (Pr':=Pr) hres (fun _ _ h=>h) (by
       obtain⟨v',css,hv',he,hown,hf⟩:=hres
       intro b hb
       refine hf rfl b ?_
       simpa[bj,hv'] using hb)
      generalize hx:a.eval i=x at *
      cases hp with
      | row h =>
       rw[hv'] at h
       cases h
       obtain⟨rfl,z,h1,h2⟩:=AN (P:=P) (w:=w) (γ:=γ) (kl:=kl) (kh:=kh) hU hrk hc'
       exact bd hI ho h1 h2
     ·cases hc'
    ·rename_i e t xs hg
     split at hc'
     ·rename_i hst
      cases hst
      obtain⟨v',hv',hrk⟩:=hI.res r _ (hk r _ hg)
      generalize hx:a.eval i=x at *
      cases hp with
      | row h =>
       rw[hv'] at h
       cases h
       obtain⟨rfl,z,h1,h2⟩:=AN (P:=P) (w:=w) (γ:=γ) (kl:=kl) (kh:=kh) hU hrk hc'
       exact bd hI ho h1 h2
     ·cases hc'
    ·cases hc'
   ·rename_i l h e t hl hh hne
    subst hpe
    obtain⟨kl,el⟩:=hbounds.1 _ hl
    obtain⟨kh,eh⟩:=hbounds.2 _ hh
    rw[el,eh] at ho
    split at hc'
    ·rename_i xs hx
     obtain⟨Pr',hI',hP,hR,_⟩:=gr hI hk (cG 9 p')
     obtain⟨cs,hx',hrk⟩:=eZ hR (d':=9) (by omega) (fun r hr=>hr) (pu (fun b o v h=>⟨hP _ _ h.1,h.2⟩) (fun _ _ h=>h) hp) hx
     obtain⟨A,cap,rfl,hrk'⟩:=jo hrk
     rw[hx'] at ho
     obtain⟨rfl,z,h1,h2⟩:=AN (P:=P) (w:=w) (γ:=γ) (kl:=kl) (kh:=kh) hU hrk' hc'
     refine kU hI' ?_ h2
     rw[ho]
     have h1':(Instr.sliceAt T (mk (.slice e t) [.slice A (xs:List t.den).length cap]) (Option.map (Value.int kl) l) (Option.map (Value.int kh) h) (Option.map a.eval none)).run P w = .ok z w:=h1
     simp only[U5,h1',T6,V0]
    ·cases hc'
   ·cases hc'
  ·cases hc'
end
end Go.Proofs.YtfffplonjaigkaaGreatDoor.Abs
