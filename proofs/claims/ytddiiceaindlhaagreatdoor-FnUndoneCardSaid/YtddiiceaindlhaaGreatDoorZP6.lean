/- Plain laws: drawn bytes: what the drawing functions give has small sizes, and they always give something. -/
import Derived.Test.YtddiiceaindlhaaGreatDoorZP3
import Derived.Test.YtddiiceaindlhaaGreatDoorZP4
set_option linter.unusedVariables false
set_option linter.unusedSimpArgs false
set_option linter.unusedSectionVars false
namespace Go.Proofs.YtddiiceaindlhaaGreatDoor.Abs
open Go
def Ok {α:Type} (P:α→Prop) (o:Option α):Prop := ∃ a,o=some a∧P a
theorem Ok.one {α:Type} {P:α→Prop} {a:α} (h:P a):Ok P (some a):=⟨a,rfl,h⟩
theorem Ok.bnd {α β:Type} {P:α→Prop} {Q:β→Prop} {o:Option α} {f:α→Option β} (h:Ok P o) (k : ∀ a,P a→Ok Q (f a)):Ok Q (o.bind f):=by
 obtain⟨a,e,p⟩:=h
 rw[e]
 exact k a p
theorem Ok.ite {α:Type} {c:Prop} [Decidable c] {Q:α→Prop} {a b:Option α} (h:c→Ok Q a) (k : ¬c→Ok Q b):Ok Q (if c then a else b):=by
 by_cases e:c
 ·rw[if_pos e]; exact h e
 ·rw[if_neg e]; exact k e
theorem Ok.inb {α β:Type} {Q:β→Prop} {xs:List α} {i:Int} {k:Option β} (h:0≤i∧i < (xs.length:Int)) (hk:Ok Q k):Ok Q (inb xs i k):=by
 rw[jg h.1 h.2]; exact hk
theorem Ok.cats {β:Type} {Q:β→Prop} {a b:ByteArray} {f:ByteArray→Option β} (h:a.size+b.size≤9223372036854775807) (hk:Ok Q (f (a++b))):Ok Q (cats a b f):=by
 rw[nI h]; exact hk
theorem Ok.nz {β:Type} {Q:β→Prop} {b:Int} {k:Option β} (h:b≠0) (hk:Ok Q k):Ok Q (nz b k):=by
 rw[Rq h]; exact hk
theorem Ok.app {α β:Type} {Q:β→Prop} {a b:List α} {n:Nat} {f:List α→Option β} (h:(a.length+b.length)*n≤140737488355328) (hk:Ok Q (f (a++b))):Ok Q (app a b n f):=by
 rw[bG h]; exact hk
theorem Ok.mono {α:Type} {P Q:α→Prop} {o:Option α} (h:Ok P o) (k : ∀ a,P a→Q a):Ok Q o:=by
 obtain⟨a,e,p⟩:=h
 exact⟨a,e,k a p⟩
theorem T1 {α β:Type} {xs:List α} {i:Int} {d:α} {f:α→Option β} (h0:0≤i) (h1:i < (xs.length:Int)):ix xs i d f=f (xs.getD i.toNat d):=by
 have hl:i.toNat < xs.length:=by omega
 rw[dZ h0 (List.getElem?_eq_getElem hl),List.getD_eq_getElem?_getD,List.getElem?_eq_getElem hl]
 rfl
theorem Po {l:List ByteArray} {n:Nat} (h : ∀ x∈l,x.size≤n) (i:Nat) (d:ByteArray) (hd:d.size≤n):(l.getD i d).size≤n:=by
 rw[List.getD_eq_getElem?_getD]
 by_cases e:i < l.length
 ·rw[List.getElem?_eq_getElem e]; exact h _ (List.getElem_mem e)
 ·rw[List.getElem?_eq_none (by omega)]; exact hd
structure G3 (c:List Int):Prop where
 len:c.length≤1048576
 all : ∀ b∈c,0≤b∧b≤255
def Rd (c:List Int) (s:aC):Prop:=s.1=c∧0≤s.2.1∧s.2.1≤(c.length:Int)
section
variable {c:List Int} (hc:G3 c)
include hc
theorem sk {s:aC} (h:Rd c s):Ok (fun z=>(0≤z.1.1∧z.1.1≤255)∧Rd c z.2.1) (iG s):=by
 obtain⟨x,i,u⟩:=s
 obtain⟨h1,h2,h3⟩:=h
 simp only at h1 h2 h3
 subst h1
 have hl:=hc.len
 rw[wi]
 show Ok _ (if decide (i≥(x.length:Int))=true then some ((0,()),((x,i,u),())) else ix x (IntKind.i64.wrap ((IntKind.i64.wrap (i+1)) - 1)) 0 fun y1=>(some (((IntKind.i64.wrap y1),()),((x,(IntKind.i64.wrap (i+1)),()),()))))
 refine Ok.ite (fun _=>Ok.one ⟨⟨Int.le_refl _,by show(0:Int)≤255; decide⟩,rfl,h2,h3⟩) fun e => ?_
 have e':i < (x.length:Int):=by simp only[decide_eq_true_eq] at e; omega
 rw[wr (n:=i+1) (by omega) (by omega),wr (n:=i+1 - 1) (by omega) (by omega),show i+1 - 1=i by omega,T1 h2 e']
 have hb:0≤x.getD i.toNat 0∧x.getD i.toNat 0≤255:=by
  rw[List.getD_eq_getElem?_getD,List.getElem?_eq_getElem (by omega)]
  exact hc.all _ (List.getElem_mem _)
 rw[wr (by omega) (by omega)]
 exact Ok.one ⟨hb,rfl,by show(0:Int)≤i+1; omega,by show i+1≤(x.length:Int); omega⟩
theorem ni {n:Int} {s:aC} (h:Rd c s) (hn:1≤n):Ok (fun z=>(0≤z.1.1∧z.1.1 < n)∧Rd c z.2.1) (am n s):=by
 rw[DM]
 refine Ok.ite (fun _=>Ok.one ⟨⟨Int.le_refl _,by show(0:Int) < n; omega⟩,h⟩) fun _=>Ok.ite (fun _ => ?_) fun _ => ?_
 ·refine Ok.bnd (sk hc h) fun z hz=>Ok.nz (by omega) (Ok.one ⟨⟨Int.tmod_nonneg _ hz.1.1,Int.tmod_lt_of_pos _ (by omega)⟩,hz.2⟩)
 ·refine Ok.bnd (sk hc h) fun z hz=>Ok.bnd (sk hc hz.2) fun y hy => ?_
  have h1:=hz.1
  have h2:=hy.1
  rw[wr (n:=z.1.1*256) (by omega) (by omega),wr (by omega) (by omega)]
  exact Ok.nz (by omega) (Ok.one ⟨⟨Int.tmod_nonneg _ (by omega),Int.tmod_lt_of_pos _ (by omega)⟩,hy.2⟩)
theorem Ez {s:aC} (h:Rd c s):Ok (fun z=>ao z.1.1=true∧Rd c z.2.1) (dc s):=by
 rw[Jh]
 refine Ok.bnd (ni hc h (by decide)) fun z hz=>Ok.bnd (ni hc hz.2 (by decide)) fun y hy => ?_
 have h1:=hz.1
 have h2:=hy.1
 rw[wr (by omega) (by omega),wr (by omega) (by omega)]
 refine Ok.one ⟨?_,hy.2⟩
 rw[bA]
 show(1≤1+z.1.1∧1+z.1.1≤52)∧1≤1+y.1.1∧1+y.1.1≤99
 omega
theorem A4 {n:Int} {s:aC} (h:Rd c s) (hn:1≤n):Ok (fun z=>Rd c z.2.1) (bb n s):=by
 rw[Hp]
 exact Ok.bnd (ni hc h hn) fun z hz=>Ok.one hz.2
theorem Kb : ∀(n:Nat) (x0:Int) (s:aC),n≤8→Rd c s→Ok (fun z=>Rd c z.2.1) (mN x0 (8 - (n:Int)) s)
 | 0,x0,s,_,h=>by
  rw[th,aE (by omega)]
  exact Ok.one h
 | n+1,x0,s,hn,h=>by
  rw[th,aI (by omega)]
  refine Ok.bnd (sk hc h) fun z hz => ?_
  rw[wr (by omega) (by omega),show 8 - ((n+1:Nat):Int)+1=8 - (n:Int) by omega]
  exact Kb n _ _ (by omega) hz.2
theorem So {s:aC} (h:Rd c s):Ok (fun z=>Rd c z.2.1) (xi s):=by
 rw[Hr]
 exact Kb hc 8 0 s (Nat.le_refl _) h
theorem Sp {a b:Int} {s:aC} (h:Rd c s) (hab:0≤a∧a≤b∧b≤1000000):Ok (fun z=>Rd c z.2.1) (xj a b s):=by
 rw[Hs]
 refine Ok.bnd (ni hc h (by decide)) fun z hz=>Ok.ite (fun _=>Ok.one hz.2) fun _=>Ok.ite (fun _=>Ok.one hz.2) fun _=>Ok.ite (fun _=>Ok.one hz.2) fun _=>Ok.bnd (So hc hz.2) fun y hy => ?_
 refine Ok.nz ?_ (Ok.one hy)
 rw[wr (n:=b - a) (by omega) (by omega),wr (n:=b - a+1) (by omega) (by omega)]
 have:IntKind.u64.wrap (b - a+1)=b - a+1:=by
  show(b - a+1) % 18446744073709551616=_
  omega
 rw[this]
 omega
theorem Kc {a b:Int} {s:aC} (h:Rd c s) (hab:0≤a∧a≤b∧b≤1000000):Ok (fun z=>Rd c z.2.1) (de a b s):=by
 rw[Ji]
 refine Ok.bnd (A4 hc h (by decide)) fun z hz=>Ok.ite (fun _ => ?_) fun _ => ?_
 ·exact Ok.bnd (ni hc hz (by decide)) fun y hy=>Ok.inb hy.1 (Ok.one hy.2)
 ·exact Ok.bnd (Sp hc hz hab) fun y hy=>Ok.one hy
theorem Sq {s:aC} (h:Rd c s):Ok (fun z=>Rd c z.2.1) (im s):=by
 rw[Ht]
 refine Ok.bnd (Ez hc h) fun z hz=>Ok.bnd (Ez hc hz.2) fun y hy=>Ok.bnd (A4 hc hy.2 (by decide)) fun w hw=>Ok.ite (fun _ => ?_) fun _=>Ok.one hw
 exact Ok.bnd (Kc hc hw (by decide)) fun v hv=>Ok.one hv
end
theorem Lc (p:aA):Ok (fun z=>z.1.1.size≤10) (cI p):=by
 refine⟨_,mV p,?_⟩
 show(if ao p.1=true then ba (eV p) else ba []).size≤10
 split
 ·rename_i h
  rw[aq]
  have:=AZ h
  omega
 ·rw[aq]; decide
theorem Pp {n:Int} (h0:0≤n) (h1:n≤100):Ok (fun z=>z.1.1.size≤20) (dC n):=⟨_,zH (by omega) (by omega),oX (by omega) (by omega)⟩
theorem Nt {k:Int} (h0:0≤k) (h1:k≤11):Ok (fun z=>z.1.1.size≤2) (kf k):=by
 refine⟨_,rZ h0 h1,?_⟩
 show(ba (cZ k)).size≤2
 rw[aq]
 exact wD k
theorem Ry {a:UInt8}:(⟨#[a]⟩:ByteArray).size=1:=rfl
theorem Ue {a b d:UInt8}:(⟨#[a,b,d]⟩:ByteArray).size=3:=rfl
theorem Ok.inbL {β:Type} {Q:β→Prop} {l:List ByteArray} {i n:Int} {k:Option β} (d:ByteArray) (h0:0≤i) (h1:i < n) (hl:n=(l.length:Int)) (hs : ∀ x∈l,x.size≤20) (hd:d.size≤20) (hk:(l.getD i.toNat d).size≤20→Ok Q k):Ok Q (Abs.inb l i k) :=
 Ok.inb ⟨h0,by omega⟩ (hk (Po hs _ _ hd))
theorem L0 {β:Type} {Q:β→Prop} {p:aA} {f:(ByteArray×Unit)×Unit→Option β} (k : ∀ z,z.1.1.size≤10→Ok Q (f z)):Ok Q ((cI p).bind f):=Ok.bnd (Lc p) k
theorem Nu {β:Type} {Q:β→Prop} {n:Int} {f:(ByteArray×Unit)×Unit→Option β} (h0:0≤n) (h1:n≤100) (k : ∀ z,z.1.1.size≤20→Ok Q (f z)):Ok Q ((dC n).bind f):=Ok.bnd (Pp h0 h1) k
theorem Tx {β:Type} {Q:β→Prop} {n:Int} {f:(ByteArray×Unit)×Unit→Option β} (h0:0≤n) (h1:n≤11) (k : ∀ z,z.1.1.size≤2→Ok Q (f z)):Ok Q ((kf n).bind f):=Ok.bnd (Nt h0 h1) k
theorem Sr {β:Type} {Q:β→Prop} {n:Int} {f:(ByteArray×Unit)×Unit→Option β} (h0:0≤n) (h1:n < 11) (k : ∀ z,z.1.1.size≤2→Ok Q (f z)):Ok Q ((kf (IntKind.i64.wrap (1+n))).bind f):=by
 rw[wr (by omega) (by omega)]
 exact Tx (by omega) (by omega) k
section
variable {c:List Int} (hc:G3 c) {β:Type} {Q:β→Prop} {s:aC}
include hc
theorem wJ {n:Int} {f:(Int×Unit)×aC×Unit→Option β} (h:Rd c s) (hn:1≤n) (k : ∀ z,0≤z.1.1→z.1.1 < n→Rd c z.2.1→Ok Q (f z)):Ok Q ((am n s).bind f):=Ok.bnd (ni hc h hn) fun z hz=>k z hz.1.1 hz.1.2 hz.2
theorem EA {n:Int} {f:(Bool×Unit)×aC×Unit→Option β} (h:Rd c s) (hn:1≤n) (k : ∀ z,Rd c z.2.1→Ok Q (f z)):Ok Q ((bb n s).bind f):=Ok.bnd (A4 hc h hn) k
theorem EB {f:(ai×Unit)×aC×Unit→Option β} (h:Rd c s) (k : ∀ z,ao z.1.1=true→Rd c z.2.1→Ok Q (f z)):Ok Q ((dc s).bind f):=Ok.bnd (Ez hc h) fun z hz=>k z hz.1 hz.2
theorem Pq {f:(aW×Unit)×aC×Unit→Option β} (h:Rd c s) (k : ∀ z,Rd c z.2.1→Ok Q (f z)):Ok Q ((im s).bind f):=Ok.bnd (Sq hc h) k
theorem Ss {m q:Nat} {f:(ByteArray×Unit)×aC×Unit→Option β} (ih : ∀ {s:aC},Rd c s→Ok (fun y=>y.1.1.size≤100*q∧Rd c y.2.1) (aX (m:Int) s)) (h:Rd c s) (k : ∀ z,z.1.1.size≤100*q→Rd c z.2.1→Ok Q (f z)):Ok Q ((aX (m:Int) s).bind f):=Ok.bnd (ih h) fun z hz=>k z hz.1 hz.2
end
set_option maxHeartbeats 4000000 in
theorem Kd {c:List Int} (hc:G3 c) : ∀(n:Nat) {s:aC},n≤3→Rd c s→Ok (fun y=>y.1.1.size≤100*4 ^ n∧Rd c y.2.1) (aX (n:Int) s)
 | n,s,hn,h=>by
  have h1:1≤4 ^ n:=Nat.one_le_pow _ _ (by decide)
  rw[Fm]
  refine Ok.ite (fun _ => ?_) fun e => ?_
  ·generalize 4 ^ n=q at h1 ⊢
   repeat' first
    | refine wJ hc (by assumption) (by decide) fun _ _ _ _ => ?_
    | refine EB hc (by assumption) fun _ _ _ => ?_
    | refine EA hc (by assumption) (by decide) fun _ _ => ?_
    | refine L0 fun _ _ => ?_
    | refine Nu (by omega) (by omega) fun _ _ => ?_
    | refine Ok.inbL ⟨#[]⟩ (by assumption) (by assumption) (by decide) (by decide) (by decide) fun _ => ?_
    | refine Ok.ite (fun _ => ?_) fun _ => ?_
    | refine Ok.one ⟨?_,by assumption⟩
   all_goals (try dsimp only)
   all_goals omega
  ·have hn0:n≠0:=fun k=>e (by subst k; rfl)
   obtain⟨m,rfl⟩ : ∃ m,n=m+1:=⟨n - 1,by omega⟩
   have hw:IntKind.i64.wrap (((m+1:Nat):Int) - 1)=(m:Int):=by rw[wr (by omega) (by omega)]; omega
   have ih:=fun {s:aC} (h:Rd c s)=>Kd hc m (s:=s) (by omega) h
   have hp:4 ^ (m+1)=4*4 ^ m:=by rw[Nat.pow_succ,Nat.mul_comm]
   have h2:1≤4 ^ m:=Nat.one_le_pow _ _ (by decide)
   have h64:4 ^ m≤64:=Nat.le_trans (Nat.pow_le_pow_right (by decide) (by omega:m≤3)) (by decide)
   rw[hp]
   simp only[hw]
   generalize 4 ^ m=q at ih h2 h64 ⊢
   repeat' first
    | refine wJ hc (by assumption) (by decide) fun _ _ _ _ => ?_
    | refine EB hc (by assumption) fun _ _ _ => ?_
    | refine EA hc (by assumption) (by decide) fun _ _ => ?_
    | refine Pq hc (by assumption) fun _ _ => ?_
    | refine Ss hc ih (by assumption) fun _ _ _ => ?_
    | refine L0 fun _ _ => ?_
    | refine Nu (by omega) (by omega) fun _ _ => ?_
    | refine Sr (by assumption) (by assumption) fun _ _ => ?_
    | refine Ok.inbL ⟨#[]⟩ (by assumption) (by assumption) (by decide) (by decide) (by decide) fun _ => ?_
    | (refine Ok.cats (by simp only[size_append,Ry,Ue]; omega) ?_; try dsimp only)
    | refine Ok.ite (fun _ => ?_) fun _ => ?_
    | refine Ok.one ⟨?_,by assumption⟩
   all_goals (try dsimp only)
   all_goals (try simp only[size_append,Ry,Ue])
   all_goals omega
theorem FR (c:List Int):I9 c=some ((decide (1048576 < (c.length:Int)),()),()):=by rw[RY]
theorem EC {x:List Int} (h:x.length≤maxLen ∧ ∀ b∈x,vK (.int .u8) b) (hl : ¬1048576 < (x.length:Int)):G3 x:=by
 refine⟨by omega,fun b hb => ?_⟩
 have:(decide (IntKind.u8.min≤b) && decide (b≤IntKind.u8.max))=true:=h.2 b hb
 simp only[Bool.and_eq_true,decide_eq_true_eq] at this
 have e1:IntKind.u8.min=0:=rfl
 have e2:IntKind.u8.max=255:=rfl
 omega
end Go.Proofs.YtddiiceaindlhaaGreatDoor.Abs
set_option linter.unusedVariables false
set_option linter.unusedSimpArgs false
set_option linter.unusedSectionVars false
namespace Go.Proofs.YtddiiceaindlhaaGreatDoor.Abs
open Go
section
variable {c:List Int} (hc:G3 c)
include hc
theorem Tz {β:Type} {Q:β→Prop} {s:aC} (n:Nat) {m:Int} {f:(ByteArray×Unit)×aC×Unit→Option β} (e:m=(n:Int)) (hn:n≤3) (h:Rd c s) (k : ∀ z,z.1.1.size≤6400→Rd c z.2.1→Ok Q (f z)):Ok Q ((aX m s).bind f):=by
 subst e
 have h4:4 ^ n≤64:=Nat.le_trans (Nat.pow_le_pow_right (n:=4) (by decide) hn) (by decide)
 exact Ok.bnd (Kd hc n hn h) fun z hz=>k z (by have:=hz.1; omega) hz.2
set_option maxHeartbeats 4000000 in
theorem Q0 {s:aC} (h:Rd c s):Ok (fun z=>z.1.1.size≤6401∧Rd c z.2.1) (kg s):=by
 rw[Fo]
 repeat' first
  | refine wJ hc (by assumption) (by decide) fun _ _ _ _ => ?_
  | refine Tz hc 2 rfl (by decide) (by assumption) fun _ _ _ => ?_
  | refine Tz hc 1 rfl (by decide) (by assumption) fun _ _ _ => ?_
  | refine Nu (by omega) (by omega) fun _ _ => ?_
  | refine Ok.inbL ⟨#[]⟩ (by assumption) (by assumption) (by decide) (by decide) (by decide) fun _ => ?_
  | (refine Ok.cats (by simp only[Ry]; omega) ?_; try dsimp only)
  | refine Ok.ite (fun _ => ?_) fun _ => ?_
  | refine Ok.one ⟨?_,by assumption⟩
 all_goals (try dsimp only)
 all_goals (try simp only[size_append,Ry])
 all_goals first | omega | decide
end
noncomputable def qX (s:List ab) (r:ai) (x:ByteArray):List ab×Bool :=
 if aH s=true∧ao r=true∧(eL x).2=true∧(cU s r (eL x).1).length≤120 then(cU s r (eL x).1,true) else([],false)
theorem G4 {s:List ab} {r:ai} {x:ByteArray} (hl:s.length≤1000000) (hs : ∀ c∈s,c.2.1.size≤9223372036854775807) (hx:x.size≤9223372036854775807):zn s r x=some (((qX s r x).1,(qX s r x).2,()),()):=by
 rw[OE,(qW hx).2.1,vm hs (by omega),gG]
 simp only[Option.bind_some]
 unfold qX
 cases h1:aH s with
 | false=>simp
 | true =>
  cases h2:ao r with
  | false=>simp
  | true =>
   cases h3:(eL x).2 with
   | false=>simp
   | true =>
    rw[G2 hl]
    simp only[Option.bind_some,Bool.not_true,Bool.false_eq_true,if_false]
    by_cases h4:(cU s r (eL x).1).length≤120
    ·rw[aE (by omega),if_pos (by simp[h4])]
    ·rw[aI (by omega),if_neg (by simp[h4])]
def wK (s:List ab):Prop:=s.length≤121 ∧ ∀ c∈s,c.2.1.size≤6401
theorem wK.sz {s:List ab} (h:wK s) : ∀ c∈s,c.2.1.size≤9223372036854775807:=fun c hc=>Nat.le_trans (h.2 c hc) (by decide)
def FS (s:List ab):Prop:=s.length≤120 ∧ ∀ c∈s,c.2.1.size≤6401
theorem FS.up {s:List ab} (h:FS s):wK s:=⟨by have:=h.1; omega,h.2⟩
theorem Q1 {s:List ab} {r:ai} {x:ByteArray} {n:Nat} (hs : ∀ c∈s,c.2.1.size≤n) (hx:x.size≤n) : ∀ c∈cU s r x,c.2.1.size≤n:=by
 intro c hc
 rcases nN.1 hc with h | ⟨_,rfl⟩
 ·exact hs c h.1
 ·exact hx
theorem Ps {s:List ab} {r:ai} {x:ByteArray} (h : ∀ c∈s,c.2.1.size≤6401):FS (qX s r x).1:=by
 unfold qX
 split
 ·rename_i k
  exact⟨k.2.2.2,Q1 h (Nat.le_trans (G0 x) (by decide))⟩
 ·exact⟨Nat.zero_le _,fun c hc=>by cases hc⟩
theorem Su {β:Type} {Q:β→Prop} {s:List ab} {r:ai} {x:ByteArray} {f:((List ab)×Bool×Unit)×Unit→Option β} (h:wK s) (hx:x.size≤6401) (k : ∀ z,FS z.1.1→Ok Q (f z)):Ok Q ((zn s r x).bind f) :=
 Ok.bnd (P:=fun z=>FS z.1.1) ⟨_,G4 (by have:=h.1; omega) h.sz (by omega),Ps h.2⟩ k
section
variable {c:List Int} (hc:G3 c)
include hc
theorem FT {β:Type} {Q:β→Prop} {s:aC} {f:(ByteArray×Unit)×aC×Unit→Option β} (h:Rd c s) (k : ∀ z,z.1.1.size≤6401→Rd c z.2.1→Ok Q (f z)):Ok Q ((kg s).bind f):=Ok.bnd (Q0 hc h) fun z hz=>k z hz.1 hz.2
theorem zW : ∀(n:Nat) {s:aC} {out:List ab},n≤1000→Rd c s→FS out→Ok (fun z=>wK z.1.1∧Rd c z.2.1) (jd (n:Int) s out)
 | 0,s,out,_,h,ho=>by
  rw[rq,aE (by decide)]
  refine EA hc h (by decide) fun z hz=>Ok.ite (fun _ => ?_) fun _=>Ok.one ⟨ho.up,hz⟩
  refine EB hc hz fun y _ hy=>FT hc hy fun x hx hz' => ?_
  have hl:=ho.1
  refine Ok.app (by simp only[List.length_singleton]; omega) (Ok.one ⟨⟨by simp only[List.length_append,List.length_singleton]; omega,fun d hd => ?_⟩,hz'⟩)
  rcases List.mem_append.1 hd with hd | hd
  ·exact ho.2 d hd
  ·rw[List.mem_singleton.1 hd]
   exact hx
 | n+1,s,out,hn,h,ho=>by
  have hw:IntKind.i64.wrap (((n+1:Nat):Int) - 1)=(n:Int):=by rw[wr (by omega) (by omega)]; omega
  rw[rq,aI (by omega),hw]
  refine EB hc h fun y _ hy=>FT hc hy fun x hx hz=>Su ho.up hx fun w hw=>Ok.ite (fun _ => ?_) fun _ => ?_
  ·exact zW n (by omega) hz hw
  ·exact zW n (by omega) hz ho
end
theorem Ui (a b:ab):bC ag a b=decide (a=b):=by
 by_cases h:a=b
 ·rw[decide_eq_true h]; exact(nK rfl).2 h
 ·rw[decide_eq_false h,Bool.eq_false_iff]; exact fun k=>h ((nK rfl).1 k)
theorem G5 {α:Type} [DecidableEq α] {d:α} {xs ys:List α} {P:Int→Option ((Bool×Unit)×Unit)} (hl:xs.length≤1000000000) (hxy:ys.length=xs.length)
  (hP : ∀ i,P i=if(decide (i < (List.length xs:Int)))=true then(ix xs i d fun y1=>(ix ys i d fun y2=>(if(!(decide (y1=y2)))=true then(some ((false,()),(()))) else(P (IntKind.i64.wrap (i+1)))))) else(some ((true,()),(())))) : ∀(a b pa pb:List α),xs=pa++a→ys=pb++b→pa.length=pb.length→P (pa.length:Int)=some ((decide (a=b),()),())
 | [],b,pa,pb,ha,hb,hp=>by
  have:b=[]:=by
   have e:=congrArg List.length ha
   have e':=congrArg List.length hb
   simp only[List.length_append,List.length_nil] at e e'
   exact List.length_eq_zero_iff.1 (by omega)
  rw[hP,aE (ct ha),this]
  rfl
 | x :: a,[],pa,pb,ha,hb,hp=>by
  have e:=congrArg List.length ha
  have e':=congrArg List.length hb
  simp only[List.length_append,List.length_nil,List.length_cons] at e e'
  omega
 | x :: a,y :: b,pa,pb,ha,hb,hp=>by
  rw[hP,aI (cK ha),bU ha,hp,bU hb,←hp,bk ha (by omega),G5 hl hxy hP a b (pa++[x]) (pb++[y]) (aZ ha) (aZ hb) (by simp[hp])]
  by_cases e:x=y
  ·rw[decide_eq_true e]
   subst e
   simp
  ·rw[decide_eq_false e]
   simp[e]
theorem TA {α:Type} {xs ys:List α}:((xs.length:Int) != (ys.length:Int)) = !decide (xs.length=ys.length):=by
 by_cases h:xs.length=ys.length
 ·simp[h]
 ·have:(xs.length:Int)≠(ys.length:Int):=by omega
  simp[h,this]
theorem jZ {xs ys:List ab} (hl:xs.length≤1000000000):cw xs ys=some ((decide (xs=ys),()),()):=by
 rw[HQ,TA]
 by_cases h:xs.length=ys.length
 ·rw[decide_eq_true h,if_neg (by decide)]
  exact G5 (d:=ag.dflt) (P:=fun i=>mQ xs ys i) hl h.symm (fun i=>by rw[Cu]; simp only[Ui]) xs ys [] [] rfl rfl rfl
 ·rw[decide_eq_false h,if_pos (by rfl),decide_eq_false (fun e=>h (congrArg _ e))]
theorem Ke {s:List ab} {r:ai} (hs : ∀ c∈s,c.2.1.size≤9223372036854775807) (hl:s.length≤1000000000):qG s r=some ((if aH s=true then bp r s else eS,()),()):=by
 rw[Jx,mE hs hl,Option.bind_some]
 cases h:aH s with
 | false=>rfl
 | true =>
  rw[tD (by omega)]
  rfl
end Go.Proofs.YtddiiceaindlhaaGreatDoor.Abs
set_option linter.unusedVariables false
set_option linter.unusedSimpArgs false
set_option linter.unusedSectionVars false
namespace Go.Proofs.YtddiiceaindlhaaGreatDoor.Abs
open Go
def dd (b:ai):List ai→List ai
 | []=>[]
 | y :: ys=>if y=b then dd y ys else y :: dd y ys
def TB:List ai→List ai
 | []=>[]
 | c :: l=>c :: dd c l
theorem Pt {q:ai} : ∀ {l:List ai} {c:ai},q∈c :: dd c l↔q∈c :: l
 | [],c=>Iff.rfl
 | y :: ys,c=>by
  have ih:=Pt (q:=q) (l:=ys) (c:=y)
  unfold dd
  by_cases h:y=c
  ·rw[if_pos h]
   subst h
   rw[ih,List.mem_cons,List.mem_cons,List.mem_cons]
   constructor
   ·rintro(h | h)
    ·exact .inl h
    ·exact .inr (.inr h)
   ·rintro(h | h | h)
    ·exact .inl h
    ·exact .inl h
    ·exact .inr h
  ·rw[if_neg h,List.mem_cons,ih,List.mem_cons (a:=q) (b:=c)]
theorem Pu : ∀ {l:List ai} {c:ai},((c :: l).Pairwise fun a b=>bw b a=false)→CG (c :: dd c l)
 | [],c,_=>List.pairwise_singleton _ _
 | y :: ys,c,h=>by
  have h1:=List.pairwise_cons.1 h
  have ih:=Pu (l:=ys) (c:=y) h1.2
  unfold dd
  by_cases e:y=c
  ·rw[if_pos e]
   subst e
   exact ih
  ·rw[if_neg e]
   have hcy:bw c y=true:=by
    rcases qq c y with k | k | k
    ·exact k
    ·exact absurd k.symm e
    ·rw[h1.1 y (by simp)] at k
     cases k
   refine List.pairwise_cons.2 ⟨fun d hd => ?_,ih⟩
   rcases List.mem_cons.1 hd with rfl | hd
   ·exact hcy
   ·exact gJ hcy ((List.pairwise_cons.1 ih).1 d hd)
theorem TC {a b:ai}:(bC an a b=false)=(a≠b):=by
 rw[←Bool.not_eq_true]
 exact congrArg Not o9
theorem xU : ∀(ys kept junk:List ai) (b:ai) (base x2:Nat),base+x2=kept.length+junk.length+1→1≤x2→kept.length+junk.length+ys.length+1≤1000000000→ed (kept.length:Int) (base:Int) (x2:Int) (kept++junk++b :: ys)=some ((kept++dd b ys,()),())
 | [],kept,junk,b,base,x2,hb,h1,hl=>by
  have hlen:((kept++junk++[b]).length:Int)=(base:Int)+x2:=by simp only[List.length_append,List.length_singleton]; omega
  rw[jV,aE (by omega),if_pos (by omega),if_pos (by simp only[List.length_append,List.length_singleton]; omega),OO (by omega) (by simp only[List.length_append,List.length_take,List.length_replicate,List.length_singleton,Int.toNat_natCast]; omega)]
  simp[dd]
 | y :: ys,kept,junk,b,base,x2,hb,h1,hl=>by
  rw[List.length_cons] at hl
  have hlen:((kept++junk++b :: y :: ys).length:Int)=(base:Int)+x2+1+ys.length:=by simp only[List.length_append,List.length_cons]; omega
  have g1:List.getD (kept++junk++b :: y :: ys) (Int.toNat ((base:Int)+x2)) an.dflt=y:=by
   have:(base:Int)+(x2:Int)=((kept++junk++[b]).length:Int):=by simp only[List.length_append,List.length_singleton]; omega
   rw[this,show kept++junk++b :: y :: ys=(kept++junk++[b])++y :: ys by simp]
   exact j9
  have w1:IntKind.i64.wrap ((x2:Int) - 1)=(x2:Int) - 1:=wr (by omega) (by omega)
  have w2:IntKind.i64.wrap ((x2:Int)+1)=((x2+1:Nat):Int):=by rw[wr (by omega) (by omega)]; omega
  have g2:List.getD (kept++junk++b :: y :: ys) (Int.toNat ((base:Int)+((x2:Int) - 1))) an.dflt=b:=by
   have:(base:Int)+((x2:Int) - 1)=((kept++junk).length:Int):=by simp only[List.length_append]; omega
   rw[this]
   exact j9
  rw[jV,aI (by omega),if_pos (by omega),if_pos (by omega),w1,if_pos (by omega),if_pos (by omega),g1,g2]
  unfold dd
  by_cases e:y=b
  ·rw[if_pos e,o9.mpr e,if_neg (by decide),w2]
   have ih:=xU ys kept (junk++[b]) y base (x2+1) (by simp only[List.length_append,List.length_singleton]; omega) (by omega) (by simp only[List.length_append,List.length_singleton]; omega)
   rw[show kept++(junk++[b])++y :: ys=kept++junk++b :: y :: ys by simp] at ih
   exact ih
  ·rw[if_neg e,TC.mpr e,if_pos (by rfl),if_pos (by omega),if_pos (by omega),jg (by omega) (by simp only[List.length_append,List.length_cons]; omega),w2,wr (by omega) (by omega)]
   obtain⟨z,zs,hz⟩ : ∃ z zs,junk++[b]=z :: zs:=by
    cases junk with
    | nil=>exact⟨b,[],rfl⟩
    | cons z zs=>exact⟨z,zs++[b],rfl⟩
   have hzl:zs.length=junk.length:=by
    have:=congrArg List.length hz
    simp only[List.length_append,List.length_cons,List.length_nil] at this
    omega
   have ih:=xU ys (kept++[y]) zs y base (x2+1) (by simp only[List.length_append,List.length_singleton]; omega) (by omega) (by simp only[List.length_append,List.length_singleton]; omega)
   have e1:List.set (kept++junk++b :: y :: ys) (Int.toNat (kept.length:Int)) y=kept++[y]++zs++y :: ys:=by
    have:kept++junk++b :: y :: ys=kept++z :: (zs++y :: ys):=by
     rw[show kept++junk++b :: y :: ys=kept++((junk++[b])++y :: ys) by simp,hz]
     simp
    rw[this,S5]
    simp
   rw[e1]
   have e2:((kept++[y]).length:Int)=(kept.length:Int)+1:=by simp
   rw[e2] at ih
   rw[ih]
   simp
theorem ED : ∀(ys pre:List ai) (b:ai),pre.length+ys.length+1≤1000000000→fu ((pre.length:Int)+1) (pre++b :: ys)=some ((pre++b :: dd b ys,()),())
 | [],pre,b,hl=>by
  rw[jS,aE (by simp only[List.length_append,List.length_singleton]; omega)]
  rfl
 | y :: ys,pre,b,hl=>by
  rw[List.length_cons] at hl
  have g1:List.getD (pre++b :: y :: ys) (Int.toNat ((pre.length:Int)+1)) an.dflt=y:=by
   have:(pre.length:Int)+1=((pre++[b]).length:Int):=by simp
   rw[this,show pre++b :: y :: ys=(pre++[b])++y :: ys by simp]
   exact j9
  have w1:IntKind.i64.wrap ((pre.length:Int)+1 - 1)=(pre.length:Int):=by rw[wr (by omega) (by omega)]; omega
  have w2:IntKind.i64.wrap ((pre.length:Int)+1+1)=(pre.length:Int)+1+1:=wr (by omega) (by omega)
  rw[jS,aI (by simp only[List.length_append,List.length_cons]; omega),jg (by omega) (by simp only[List.length_append,List.length_cons]; omega),w1,ir (xs:=pre++b :: y :: ys) rfl,g1,j9]
  unfold dd
  by_cases e:y=b
  ·rw[if_pos e,o9.mpr e,if_pos rfl,if_pos (by omega),if_pos (by simp only[List.length_append,List.length_cons]; omega)]
   have:=xU ys (pre++[b]) [] y (pre.length+1) 1 (by simp) (by omega) (by simp only[List.length_append,List.length_singleton,List.length_nil]; omega)
   simp only[List.append_nil,List.append_assoc,List.singleton_append,List.length_append,List.length_singleton] at this
   exact this
  ·rw[if_neg e,TC.mpr e,if_neg (by decide),w2]
   have ih:=ED ys (pre++[b]) y (by simp only[List.length_append,List.length_singleton]; omega)
   simp only[List.append_assoc,List.singleton_append,List.length_append,List.length_singleton] at ih
   exact ih
theorem Nv {l:List ai} (hl:l.length≤1000000000):jB l=some ((TB l,()),()):=by
 rw[tR]
 cases l with
 | nil=>rfl
 | cons c l =>
  cases l with
  | nil=>rfl
  | cons d l =>
   rw[aE (by simp only[List.length_cons]; omega)]
   exact ED (d :: l) [] c (by simp only[List.length_nil,List.length_cons] at hl ⊢; omega)
theorem Q2 {s:List ai} (hl:s.length≤1000000000):ef s=some ((),(db (α:=an.den) bw s,())):=by
 rw[kF]
 unfold dI
 simp only[gQ?,dite_true,Option.bind_some,if_true]
 exact if_pos (by omega)
theorem Nw:Sort.SWO (α:=an.den) bw:=Nq
theorem Nx (l:List ai):TB (db (α:=an.den) bw l)=rj l:=by
 have hp:=mn Nw l
 have hs:=q8 Nw l
 refine QV ?_ (J8 l) fun q => ?_
 ·cases hq:db (α:=an.den) bw l with
  | nil=>exact List.Pairwise.nil
  | cons c m =>
   rw[hq] at hs
   exact Pu hs
 ·rw[CI,←hp.mem_iff]
  cases hq:db (α:=an.den) bw l with
  | nil=>exact Iff.rfl
  | cons c m=>exact Pt
section
variable {ls:List (List ab)} (hls:ls.length≤10)
include hls
theorem G6 {s:List ab} {i:Int} (hs:s.length≤2000000) : ∀(ys pre:List ab) (acc:List ai),s=pre++ys→acc.length+ys.length≤100000000→rS ls (ls.length:Int) i s (s.length:Int) (pre.length:Int) acc=oT ls (ls.length:Int) (IntKind.i64.wrap (i+1)) (acc++fR ys)
 | [],pre,acc,h,ha=>by
  rw[yt,aE (ct h)]
  simp[fR]
 | y :: ys,pre,acc,h,ha=>by
  rw[List.length_cons] at ha
  rw[yt,aI (cK h),bU h,bG (by simp only[List.length_singleton]; omega),bk h (by omega),G6 hs ys _ _ (aZ h) (by simp only[List.length_append,List.length_singleton]; omega)]
  simp[fR]
theorem EE (hs : ∀ s∈ls,s.length≤2000000) : ∀(ys pre:List (List ab)) (acc:List ai),ls=pre++ys→acc.length≤2000000*pre.length→oT ls (ls.length:Int) (pre.length:Int) acc=some ((rj (acc++ys.flatMap fR),()),())
 | [],pre,acc,h,ha=>by
  have hp:pre.length≤10:=by rw[h] at hls; simpa using hls
  rw[yp,aE (ct h),Q2 (by omega),Option.bind_some]
  have hl:=(mn Nw acc).length_eq
  rw[Nv (by rw[hl]; omega),Option.bind_some,Nx]
  simp
 | y :: ys,pre,acc,h,ha=>by
  have hp:pre.length < 10:=by rw[h] at hls; simp only[List.length_append,List.length_cons] at hls; omega
  have hy:=hs y (by rw[h]; simp)
  have e:=G6 hls (i:=(pre.length:Int)) hy y [] acc rfl (by omega)
  rw[yp,aI (cK h),bU h]
  refine e.trans ?_
  rw[bk h (by omega),EE hs ys _ _ (aZ h) (by simp only[List.length_append,List.length_singleton,fR,List.length_map]; omega)]
  simp
theorem Ny (hs : ∀ s∈ls,s.length≤2000000):Fi ls=some ((rj (ls.flatMap fR),()),()):=by
 rw[M1]
 have:=EE hls hs ls [] [] rfl (by simp)
 simpa using this
end
section
variable {a b:List ab} (ha:a.length≤2000000) (hb:b.length≤2000000)
include ha hb
theorem xV {P:List ai} (hP:P.length≤10000000) : ∀(ys pre:List ai) (acc:List dk),P=pre++ys→acc.length+ys.length≤100000000→s8 a b (P.length:Int) (pre.length:Int) acc P=some ((acc++(ys.map (Rx a b)).filter (fun c => !decide (c.2.1=c.2.2.1)),()),())
 | [],pre,acc,h,hc=>by
  rw[BO,aE (ct h)]
  simp
 | y :: ys,pre,acc,h,hc=>by
  rw[List.length_cons] at hc
  have hg:List.getD P (Int.toNat (pre.length:Int)) an.dflt=y:=by rw[h]; exact j9
  rw[BO,aI (cK h),ir h,hg,tD (by omega),Option.bind_some,tD (by omega),Option.bind_some]
  dsimp only
  rw[Uk,bk h (by omega)]
  by_cases e:bp y a=bp y b
  ·rw[decide_eq_true e,if_neg (by decide),xV hP ys _ _ (aZ h) (by omega)]
   simp[Rx,e]
  ·rw[decide_eq_false e,if_pos (by rfl),bG (by simp only[List.length_singleton]; omega),xV hP ys _ _ (aZ h) (by simp only[List.length_append,List.length_singleton]; omega)]
   simp[Rx,e]
theorem Q3:My a b=some ((nO a b,()),()):=by
 rw[Qz,Ny (by simp) (by intro s hs; simp only[List.mem_cons,List.not_mem_nil,or_false] at hs; rcases hs with rfl | rfl <;> assumption),Option.bind_some]
 have hP:=CJ ([a,b].flatMap fR)
 have hl:([a,b].flatMap fR).length=a.length+b.length:=by simp[fR]
 dsimp only
 have:=xV ha hb (P:=rj ([a,b].flatMap fR)) (by omega) (rj ([a,b].flatMap fR)) [] [] rfl (by simp only[List.length_nil]; omega)
 refine this.trans ?_
 unfold nO
 simp
end
section
variable {a b:List ab} (ha:a.length≤2000000) (hb:b.length≤2000000) (hsa : ∀ c∈a,c.2.1.size≤9223372036854775807) (hsb : ∀ c∈b,c.2.1.size≤9223372036854775807)
include ha hb hsa hsb
end
end Go.Proofs.YtddiiceaindlhaaGreatDoor.Abs
set_option linter.unusedVariables false
set_option linter.unusedSimpArgs false
set_option linter.unusedSectionVars false
namespace Go.Proofs.YtddiiceaindlhaaGreatDoor.Abs
open Go
section
variable {o x y:List ab} (ho:o.length≤2000000) (hx:x.length≤2000000) (hy:y.length≤2000000)
include ho hx hy
end
section
variable {o x y:List ab} (ho:o.length≤2000000) (hx:x.length≤2000000) (hy:y.length≤2000000) (hso : ∀ c∈o,c.2.1.size≤9223372036854775807) (hsx : ∀ c∈x,c.2.1.size≤9223372036854775807) (hsy : ∀ c∈y,c.2.1.size≤9223372036854775807)
include ho hx hy hso hsx hsy
end
end Go.Proofs.YtddiiceaindlhaaGreatDoor.Abs
