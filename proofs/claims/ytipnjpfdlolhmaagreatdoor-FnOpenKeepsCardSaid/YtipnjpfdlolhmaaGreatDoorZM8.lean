/- Plain laws: drawn bytes: what the drawing functions give has small sizes, and they always give something. -/
import Derived.Test.YtipnjpfdlolhmaaGreatDoorZM7
import Derived.Test.YtipnjpfdlolhmaaGreatDoorZM5
set_option linter.unusedVariables false
set_option linter.unusedSimpArgs false
set_option linter.unusedSectionVars false
open Bool renaming and_eq_true→Z8,and_true→el_,eq_false_iff→bt_,eq_iff_iff→ci_,false_eq_true→Z5,not_eq_true'→cz_,not_false→as_,not_true→aj_,or_eq_true→cx_,true_and→bj_
open ByteArray renaming size→ao_,toList→Z6
open Go.IntKind renaming i64→gu_,wrap→gt_
open Go.Lib renaming decDigits→am_,parseIntB→dp_,parseUintB→gd_,parseUintM→ew_
open Int renaming le_refl→cv_,tmod_lt_of_pos→gp_,toNat_of_nonneg→cd_
open List renaming all_append→cf_,all_cons→bp_,all_eq_true→cc_,any_eq_true→gi_,append_assoc→ax_,append_nil→bz_,cons_append→ck_,dropWhile_cons_of_neg→au_,dropWhile_cons_of_pos→fb_,drop_left'→ft_,drop_succ_cons→bh_,drop_zero→ce_,find?_cons→cy_,getD_eq_getElem?_getD→ak_,getElem?_append_left→cg_,getElem?_eq_getElem→ah_,getElem?_eq_none→cb_,getElem?_of_mem→gj_,getElem_mem→dj_,getLast?_append→et_,getLast?_singleton→eg_,head?_cons→cr_,isPrefixOf_iff_prefix→dg_,length_append→Z7,length_cons→aa_,length_nil→bg_,length_pos_iff→eb_,length_singleton→Z4,mem_cons_of_mem→af_,mem_cons_self→bn_,singleton_append→bi_
open Nat renaming pow_le_pow_right→fe_
open Option renaming bind_some→Z1,some_or→gc_
open Option.some renaming injEq→ap_
open Prod renaming ext→es_
open _root_ renaming ByteArray→Z0,absurd→ay_,decide_eq_false→bm_,decide_eq_true_eq→Z9,decide_eq_true→ba_,decide_false→ca_,decide_true→bv_,if_false→ad_,if_neg→Z2,if_pos→Z3,if_true→al_
namespace Go.Proofs.YtipnjpfdlolhmaaGreatDoor.Abs
open Go
def Ok {α:Type} (P:α→Prop) (o:Option α):Prop := ∃ a,o=some a∧P a
theorem Ok.one {α:Type} {P:α→Prop} {a:α} (h:P a):Ok P (some a):=⟨a,rfl,h⟩
theorem Ok.bnd {α β:Type} {P:α→Prop} {Q:β→Prop} {o:Option α} {f:α→Option β} (h:Ok P o) (k : ∀ a,P a→Ok Q (f a)):Ok Q (o.bind f):=by
 obtain⟨a,e,p⟩:=h
 rw[e]
 exact k a p
theorem Ok.ite {α:Type} {c:Prop} [Decidable c] {Q:α→Prop} {a b:Option α} (h:c→Ok Q a) (k : ¬c→Ok Q b):Ok Q (if c then a else b):=by
 by_cases e:c
 ·rw[Z3 e]; exact h e
 ·rw[Z2 e]; exact k e
theorem Ok.inb {α β:Type} {Q:β→Prop} {xs:List α} {i:Int} {k:Option β} (h:0≤i∧i < (xs.length:Int)) (hk:Ok Q k):Ok Q (inb xs i k):=by
 rw[dx h.1 h.2]; exact hk
theorem Ok.cats {β:Type} {Q:β→Prop} {a b:Z0} {f:Z0→Option β} (h:a.size+b.size≤9223372036854775807) (hk:Ok Q (f (a++b))):Ok Q (cats a b f):=by
 rw[mD h]; exact hk
theorem Ok.nz {β:Type} {Q:β→Prop} {b:Int} {k:Option β} (h:b≠0) (hk:Ok Q k):Ok Q (nz b k):=by
 rw[Qd h]; exact hk
theorem Ok.app {α β:Type} {Q:β→Prop} {a b:List α} {n:Nat} {f:List α→Option β} (h:(a.length+b.length)*n≤140737488355328) (hk:Ok Q (f (a++b))):Ok Q (app a b n f):=by
 rw[bJ h]; exact hk
theorem Ok.mono {α:Type} {P Q:α→Prop} {o:Option α} (h:Ok P o) (k : ∀ a,P a→Q a):Ok Q o:=by
 obtain⟨a,e,p⟩:=h
 exact⟨a,e,k a p⟩
theorem Ze {α β:Type} {xs:List α} {i:Int} {d:α} {f:α→Option β} (h0:0≤i) (h1:i < (xs.length:Int)):ix xs i d f=f (xs.getD i.toNat d):=by
 have hl:i.toNat < xs.length:=by omega
 rw[cP h0 (ah_ hl),ak_,ah_ hl]
 rfl
theorem Tx {l:List Z0} {n:Nat} (h : ∀ x∈l,x.size≤n) (i:Nat) (d:Z0) (hd:d.size≤n):(l.getD i d).size≤n:=by
 rw[ak_]
 by_cases e:i < l.length
 ·rw[ah_ e]; exact h _ (dj_ e)
 ·rw[cb_ (by omega)]; exact hd
structure IJ (c:List Int):Prop where
 len:c.length≤1048576
 all : ∀ b∈c,0≤b∧b≤255
def Rd (c:List Int) (s:aY):Prop:=s.1=c∧0≤s.2.1∧s.2.1≤(c.length:Int)
section
variable {c:List Int} (hc:IJ c)
include hc
theorem sO {s:aY} (h:Rd c s):Ok (fun z=>(0≤z.1.1∧z.1.1≤255)∧Rd c z.2.1) (jJ s):=by
 obtain⟨x,i,u⟩:=s
 obtain⟨h1,h2,h3⟩:=h
 simp only at h1 h2 h3
 subst h1
 have hl:=hc.len
 rw[w7]
 show Ok _ (if decide (i≥(x.length:Int))=true then some ((0,()),((x,i,u),())) else ix x (gt_ gu_ ((gt_ gu_ (i+1)) - 1)) 0 fun y1=>(some (((gt_ gu_ y1),()),((x,(gt_ gu_ (i+1)),()),()))))
 refine Ok.ite (fun _=>Ok.one ⟨⟨cv_ _,by show(0:Int)≤255; decide⟩,rfl,h2,h3⟩) fun e => ?_
 have e':i < (x.length:Int):=by simp only[Z9] at e; omega
 rw[wr (n:=i+1) (by omega) (by omega),wr (n:=i+1 - 1) (by omega) (by omega),show i+1 - 1=i by omega,Ze h2 e']
 have hb:0≤x.getD i.toNat 0∧x.getD i.toNat 0≤255:=by
  rw[ak_,ah_ (by omega)]
  exact hc.all _ (dj_ _)
 rw[wr (by omega) (by omega)]
 exact Ok.one ⟨hb,rfl,by show(0:Int)≤i+1; omega,by show i+1≤(x.length:Int); omega⟩
theorem qq {n:Int} {s:aY} (h:Rd c s) (hn:1≤n):Ok (fun z=>(0≤z.1.1∧z.1.1 < n)∧Rd c z.2.1) (aD n s):=by
 rw[Fi]
 refine Ok.ite (fun _=>Ok.one ⟨⟨cv_ _,by show(0:Int) < n; omega⟩,h⟩) fun _=>Ok.ite (fun _ => ?_) fun _ => ?_
 ·refine Ok.bnd (sO hc h) fun z hz=>Ok.nz (by omega) (Ok.one ⟨⟨Int.tmod_nonneg _ hz.1.1,gp_ _ (by omega)⟩,hz.2⟩)
 ·refine Ok.bnd (sO hc h) fun z hz=>Ok.bnd (sO hc hz.2) fun y hy => ?_
  have h1:=hz.1
  have h2:=hy.1
  rw[wr (n:=z.1.1*256) (by omega) (by omega),wr (by omega) (by omega)]
  exact Ok.nz (by omega) (Ok.one ⟨⟨Int.tmod_nonneg _ (by omega),gp_ _ (by omega)⟩,hy.2⟩)
theorem Mo {s:aY} (h:Rd c s):Ok (fun z=>aA z.1.1=true∧Rd c z.2.1) (fe s):=by
 rw[Ll]
 refine Ok.bnd (qq hc h (by decide)) fun z hz=>Ok.bnd (qq hc hz.2 (by decide)) fun y hy => ?_
 have h1:=hz.1
 have h2:=hy.1
 rw[wr (by omega) (by omega),wr (by omega) (by omega)]
 refine Ok.one ⟨?_,hy.2⟩
 rw[bK]
 show(1≤1+z.1.1∧1+z.1.1≤52)∧1≤1+y.1.1∧1+y.1.1≤99
 omega
theorem Hg {n:Int} {s:aY} (h:Rd c s) (hn:1≤n):Ok (fun z=>Rd c z.2.1) (cG n s):=by
 rw[Jk]
 exact Ok.bnd (qq hc h hn) fun z hz=>Ok.one hz.2
theorem Mp : ∀(n:Nat) (x0:Int) (s:aY),n≤8→Rd c s→Ok (fun z=>Rd c z.2.1) (nJ x0 (8 - (n:Int)) s)
 | 0,x0,s,_,h=>by
  rw[tT,aL (by omega)]
  exact Ok.one h
 | n+1,x0,s,hn,h=>by
  rw[tT,aQ (by omega)]
  refine Ok.bnd (sO hc h) fun z hz => ?_
  rw[wr (by omega) (by omega),show 8 - ((n+1:Nat):Int)+1=8 - (n:Int) by omega]
  exact Mp n _ _ (by omega) hz.2
theorem Xf {s:aY} (h:Rd c s):Ok (fun z=>Rd c z.2.1) (ym s):=by
 rw[Jm]
 exact Mp hc 8 0 s (Nat.le_refl _) h
theorem Xg {a b:Int} {s:aY} (h:Rd c s) (hab:0≤a∧a≤b∧b≤1000000):Ok (fun z=>Rd c z.2.1) (yn a b s):=by
 rw[Jn]
 refine Ok.bnd (qq hc h (by decide)) fun z hz=>Ok.ite (fun _=>Ok.one hz.2) fun _=>Ok.ite (fun _=>Ok.one hz.2) fun _=>Ok.ite (fun _=>Ok.one hz.2) fun _=>Ok.bnd (Xf hc hz.2) fun y hy => ?_
 refine Ok.nz ?_ (Ok.one hy)
 rw[wr (n:=b - a) (by omega) (by omega),wr (n:=b - a+1) (by omega) (by omega)]
 have:IntKind.u64.wrap (b - a+1)=b - a+1:=by
  show(b - a+1) % 18446744073709551616=_
  omega
 rw[this]
 omega
theorem Yw {a b:Int} {s:aY} (h:Rd c s) (hab:0≤a∧a≤b∧b≤1000000):Ok (fun z=>Rd c z.2.1) (AN a b s):=by
 rw[Lm]
 refine Ok.bnd (Hg hc h (by decide)) fun z hz=>Ok.ite (fun _ => ?_) fun _ => ?_
 ·exact Ok.bnd (qq hc hz (by decide)) fun y hy=>Ok.inb hy.1 (Ok.one hy.2)
 ·exact Ok.bnd (Xg hc hz hab) fun y hy=>Ok.one hy
theorem Xh {s:aY} (h:Rd c s):Ok (fun z=>Rd c z.2.1) (pg s):=by
 rw[Jo]
 refine Ok.bnd (Mo hc h) fun z hz=>Ok.bnd (Mo hc hz.2) fun y hy=>Ok.bnd (Hg hc hy.2 (by decide)) fun w hw=>Ok.ite (fun _ => ?_) fun _=>Ok.one hw
 exact Ok.bnd (Yw hc hw (by decide)) fun v hv=>Ok.one hv
end
theorem N0 (p:aM):Ok (fun z=>z.1.1.size≤10) (c8 p):=by
 refine⟨_,nQ p,?_⟩
 show(if aA p.1=true then ba (fj p) else ba []).size≤10
 split
 ·rename_i h
  rw[az]
  have:=Ci h
  omega
 ·rw[az]; decide
theorem Tz {n:Int} (h0:0≤n) (h1:n≤100):Ok (fun z=>z.1.1.size≤20) (dR n):=⟨_,Be (by omega) (by omega),pu (by omega) (by omega)⟩
theorem Rf {k:Int} (h0:0≤k) (h1:k≤11):Ok (fun z=>z.1.1.size≤2) (lf k):=by
 refine⟨_,sy h0 h1,?_⟩
 show(ba (du k)).size≤2
 rw[az]
 exact xz k
theorem Wu {a:UInt8}:(⟨#[a]⟩:Z0).size=1:=rfl
theorem ZB {a b d:UInt8}:(⟨#[a,b,d]⟩:Z0).size=3:=rfl
theorem Ok.inbL {β:Type} {Q:β→Prop} {l:List Z0} {i n:Int} {k:Option β} (d:Z0) (h0:0≤i) (h1:i < n) (hl:n=(l.length:Int)) (hs : ∀ x∈l,x.size≤20) (hd:d.size≤20) (hk:(l.getD i.toNat d).size≤20→Ok Q k):Ok Q (Abs.inb l i k) :=
 Ok.inb ⟨h0,by omega⟩ (hk (Tx hs _ _ hd))
theorem Pf {β:Type} {Q:β→Prop} {p:aM} {f:(Z0×Unit)×Unit→Option β} (k : ∀ z,z.1.1.size≤10→Ok Q (f z)):Ok Q ((c8 p).bind f):=Ok.bnd (N0 p) k
theorem Rg {β:Type} {Q:β→Prop} {n:Int} {f:(Z0×Unit)×Unit→Option β} (h0:0≤n) (h1:n≤100) (k : ∀ z,z.1.1.size≤20→Ok Q (f z)):Ok Q ((dR n).bind f):=Ok.bnd (Tz h0 h1) k
theorem Yx {β:Type} {Q:β→Prop} {n:Int} {f:(Z0×Unit)×Unit→Option β} (h0:0≤n) (h1:n≤11) (k : ∀ z,z.1.1.size≤2→Ok Q (f z)):Ok Q ((lf n).bind f):=Ok.bnd (Rf h0 h1) k
theorem Xi {β:Type} {Q:β→Prop} {n:Int} {f:(Z0×Unit)×Unit→Option β} (h0:0≤n) (h1:n < 11) (k : ∀ z,z.1.1.size≤2→Ok Q (f z)):Ok Q ((lf (gt_ gu_ (1+n))).bind f):=by
 rw[wr (by omega) (by omega)]
 exact Yx (by omega) (by omega) k
section
variable {c:List Int} (hc:IJ c) {β:Type} {Q:β→Prop} {s:aY}
include hc
theorem Hh {n:Int} {f:(Int×Unit)×aY×Unit→Option β} (h:Rd c s) (hn:1≤n) (k : ∀ z,0≤z.1.1→z.1.1 < n→Rd c z.2.1→Ok Q (f z)):Ok Q ((aD n s).bind f):=Ok.bnd (qq hc h hn) fun z hz=>k z hz.1.1 hz.1.2 hz.2
theorem Mq {n:Int} {f:(Bool×Unit)×aY×Unit→Option β} (h:Rd c s) (hn:1≤n) (k : ∀ z,Rd c z.2.1→Ok Q (f z)):Ok Q ((cG n s).bind f):=Ok.bnd (Hg hc h hn) k
theorem J4 {f:(aw×Unit)×aY×Unit→Option β} (h:Rd c s) (k : ∀ z,aA z.1.1=true→Rd c z.2.1→Ok Q (f z)):Ok Q ((fe s).bind f):=Ok.bnd (Mo hc h) fun z hz=>k z hz.1 hz.2
theorem Yy {f:(aB×Unit)×aY×Unit→Option β} (h:Rd c s) (k : ∀ z,Rd c z.2.1→Ok Q (f z)):Ok Q ((pg s).bind f):=Ok.bnd (Xh hc h) k
theorem Xj {m q:Nat} {f:(Z0×Unit)×aY×Unit→Option β} (ih : ∀ {s:aY},Rd c s→Ok (fun y=>y.1.1.size≤100*q∧Rd c y.2.1) (bj (m:Int) s)) (h:Rd c s) (k : ∀ z,z.1.1.size≤100*q→Rd c z.2.1→Ok Q (f z)):Ok Q ((bj (m:Int) s).bind f):=Ok.bnd (ih h) fun z hz=>k z hz.1 hz.2
end
set_option maxHeartbeats 4000000 in
theorem Mr {c:List Int} (hc:IJ c) : ∀(n:Nat) {s:aY},n≤3→Rd c s→Ok (fun y=>y.1.1.size≤100*4 ^ n∧Rd c y.2.1) (bj (n:Int) s)
 | n,s,hn,h=>by
  have h1:1≤4 ^ n:=Nat.one_le_pow _ _ (by decide)
  rw[GS]
  refine Ok.ite (fun _ => ?_) fun e => ?_
  ·generalize 4 ^ n=q at h1 ⊢
   repeat' first
    | refine Hh hc (by assumption) (by decide) fun _ _ _ _ => ?_
    | refine J4 hc (by assumption) fun _ _ _ => ?_
    | refine Mq hc (by assumption) (by decide) fun _ _ => ?_
    | refine Pf fun _ _ => ?_
    | refine Rg (by omega) (by omega) fun _ _ => ?_
    | refine Ok.inbL ⟨#[]⟩ (by assumption) (by assumption) (by decide) (by decide) (by decide) fun _ => ?_
    | refine Ok.ite (fun _ => ?_) fun _ => ?_
    | refine Ok.one ⟨?_,by assumption⟩
   all_goals (try dsimp only)
   all_goals omega
  ·have hn0:n≠0:=fun k=>e (by subst k; rfl)
   obtain⟨m,rfl⟩ : ∃ m,n=m+1:=⟨n - 1,by omega⟩
   have hw:IntKind.i64.wrap (((m+1:Nat):Int) - 1)=(m:Int):=by rw[wr (by omega) (by omega)]; omega
   have ih:=fun {s:aY} (h:Rd c s)=>Mr hc m (s:=s) (by omega) h
   have hp:4 ^ (m+1)=4*4 ^ m:=by rw[Nat.pow_succ,Nat.mul_comm]
   have h2:1≤4 ^ m:=Nat.one_le_pow _ _ (by decide)
   have h64:4 ^ m≤64:=Nat.le_trans (fe_ (by decide) (by omega:m≤3)) (by decide)
   rw[hp]
   simp only[hw]
   generalize 4 ^ m=q at ih h2 h64 ⊢
   repeat' first
    | refine Hh hc (by assumption) (by decide) fun _ _ _ _ => ?_
    | refine J4 hc (by assumption) fun _ _ _ => ?_
    | refine Mq hc (by assumption) (by decide) fun _ _ => ?_
    | refine Yy hc (by assumption) fun _ _ => ?_
    | refine Xj hc ih (by assumption) fun _ _ _ => ?_
    | refine Pf fun _ _ => ?_
    | refine Rg (by omega) (by omega) fun _ _ => ?_
    | refine Xi (by assumption) (by assumption) fun _ _ => ?_
    | refine Ok.inbL ⟨#[]⟩ (by assumption) (by assumption) (by decide) (by decide) (by decide) fun _ => ?_
    | (refine Ok.cats (by simp only[size_append,Wu,ZB]; omega) ?_; try dsimp only)
    | refine Ok.ite (fun _ => ?_) fun _ => ?_
    | refine Ok.one ⟨?_,by assumption⟩
   all_goals (try dsimp only)
   all_goals (try simp only[size_append,Wu,ZB])
   all_goals omega
theorem Xk (c:List Int):U2 c=some ((decide (1048576 < (c.length:Int)),()),()):=by rw[WU]
theorem Yz {x:List Int} (h:x.length≤maxLen ∧ ∀ b∈x,Am (.int .u8) b) (hl : ¬1048576 < (x.length:Int)):IJ x:=by
 refine⟨by omega,fun b hb => ?_⟩
 have:(decide (IntKind.u8.min≤b) && decide (b≤IntKind.u8.max))=true:=h.2 b hb
 simp only[Z8,Z9] at this
 have e1:IntKind.u8.min=0:=rfl
 have e2:IntKind.u8.max=255:=rfl
 omega
def dT (x:ab):Bool:=decide (x.1=2) || decide (x.1=3)
def bu (f:List ab):List aB:=(f.filter dT).map b9
def ma (ar:List aB) (l:List ap):List ap:=l.filter fun c=>ar.any fun a=>jz a c.1
theorem VK (r:aw):jz (r,r,()) r=true:=by
 unfold jz
 rw[Z8,aH,aH]
 exact⟨⟨cv_ _,cv_ _⟩,cv_ _,cv_ _⟩
theorem Ms {ar:List aB} {r:aw} (h : ∃ a∈ar,jz a r=true) : ∀ l:List ap,gn (ma ar l) r=gn l r
 | []=>rfl
 | c :: l=>by
  have ih:=Ms h l
  unfold ma at ih ⊢
  rw[List.filter_cons]
  by_cases hc:(ar.any fun a=>jz a c.1)=true
  ·rw[Z3 hc]
   unfold gn
   rw[ih]
  ·rw[Z2 hc,ih]
   have:c.1≠r:=by
    rintro rfl
    exact hc (gi_.2 h)
   conv=>rhs; unfold gn
   rw[Z2 this]
theorem VL {ar:List aB} {a:aB} (h:a∈ar) (l:List ap):fX (ma ar l) a=fX l a:=by
 unfold fX ma
 rw[List.filter_filter]
 congr 1
 refine List.filter_congr fun c _ => ?_
 cases hc:jz a c.1 with
 | false=>rfl
 | true =>
  rw[bj_]
  exact gi_.2 ⟨a,h,hc⟩
section
variable {f:List ab} {l:List ap}
theorem Mt {k:Int} (h0:0≤k) (h1:k < f.length):b8 f k∈f:=by
 unfold b8
 rw[ak_,ah_ (by omega)]
 exact dj_ _
theorem IK {x:ab} (h:x∈f) (k:dT x=true):b9 x∈bu f:=List.mem_map_of_mem (List.mem_filter.2 ⟨h,k⟩)
theorem Mu {ev ev':Int→ae} : ∀ ks:List Int,(∀ k∈ks,0≤k∧k < f.length)→(∀ k∈ks,ev' k=ev k)→jA ev' f (ma (bu f) l) ks=jA ev f l ks
 | [],_,_=>rfl
 | k :: ks,hb,he=>by
  unfold jA
  rw[Mu ks (fun j hj=>hb j (af_ _ hj)) (fun j hj=>he j (af_ _ hj)),he k bn_]
  by_cases h3:(b8 f k).1=3
  ·have hb:=hb k bn_
   rw[Z3 h3,Z3 h3,VL (IK (Mt hb.1 hb.2) (by unfold dT; rw[h3]; rfl))]
  ·rw[Z2 h3,Z2 h3]
theorem Mv (A : ∀(i:Nat) (x:ab),f[i]? = some x→kX f i x) : ∀(n:Nat) (k:Int),0≤k→k < n→k < f.length→dN n f (ma (bu f) l) k=dN n f l k
 | 0,k,h0,h1,_=>by omega
 | n+1,k,h0,h1,h2=>by
  obtain⟨x,hx⟩ : ∃ y,f[k.toNat]? = some y:=⟨f[k.toNat]'(by omega),ah_ _⟩
  have hst:=A _ _ hx
  have hnx:b8 f k=x:=by
   unfold b8
   rw[ak_,hx]
   rfl
  have hm:x∈f:=List.mem_of_getElem? hx
  have hb : ∀ j∈x.2.2.2.2.2.1,0≤j∧j < f.length:=fun j hj=>by
   have:=hst.2 j hj
   omega
  have hk : ∀ j∈x.2.2.2.2.2.1,dN n f (ma (bu f) l) j=dN n f l j:=fun j hj=>by
   have:=hst.2 j hj
   exact Mv A n j this.1 (by omega) (by omega)
  have h00:dN n f (ma (bu f) l) 0=dN n f l 0:=by
   cases n with
   | zero=>rfl
   | succ n=>exact Mv A (n+1) 0 (by omega) (by omega) (by omega)
  have hkid : ∀ i:Nat,dN n f (ma (bu f) l) (x.2.2.2.2.2.1.getD i 0)=dN n f l (x.2.2.2.2.2.1.getD i 0):=fun i=>by
   rw[ak_]
   by_cases e:i < x.2.2.2.2.2.1.length
   ·rw[ah_ e]
    exact hk _ (dj_ e)
   ·rw[cb_ (by omega)]
    exact h00
  unfold dN
  simp only[hnx,hkid]
  have hargs:=Mu (l:=l) (ev:=dN n f l) (ev':=dN n f (ma (bu f) l)) _ hb hk
  rw[hargs]
  by_cases k2:x.1=2
  ·rw[Ms ⟨_,IK hm (by unfold dT; rw[k2]; rfl),?_⟩]
   unfold b9
   rw[Z3 k2]
   exact VK _
  ·rw[Z2 k2,Z2 k2]
end
theorem TA : ∀ {l:List aw} {o:Option aw},(l.Pairwise fun a b=>vh a b=true)→(∀ a,o=some a → ∀ b∈l,vh a b=true)→yP o l=true
 | [],o,_,_=>by cases o <;> rfl
 | b :: l,o,h,ho=>by
  have h':=List.pairwise_cons.1 h
  rw[Il,TA (o:=some b) h'.2 (fun a e=>by cases e; exact h'.1),el_]
  cases o with
  | none=>rfl
  | some a=>exact ho a rfl b bn_
theorem Mw {f:List ab} {l:List ap} (h:dJ f=true):fU f (ma (bu f) l)=fU f l:=by
 have hb:bA (f.length:Int) 1 60=true:=by
  unfold dJ at h
  simp only[Z8] at h
  exact h.1
 have:=aH.1 hb
 unfold fU
 rw[Mv (iu h) f.length _ (by omega) (by omega) (by omega)]
def jD (d:ag):Bool:=d.all dy && decide (bF 0 d≤1000000000000000)
theorem TB {d:ag} (hne:d≠[]) (h:d.length=1∨d.head? ≠ some 48):jM d=d.all dy:=by
 have hl:=eb_.2 hne
 unfold jM
 rw[ba_ (show 1≤d.length by omega),el_]
 rcases h with h | h
 ·rw[ba_ h]; simp
 ·rw[bm_ h]; simp
theorem TC {d:ag} (hne:d≠[]) (h:d.length=1∨d.head? ≠ some 48):(cW d 16 && decide (bF 0 d≤1000000000000000))=jD d:=by
 unfold cW jD
 rw[TB hne h]
 cases ha:d.all dy with
 | false=>simp
 | true =>
  simp only[bj_]
  by_cases hv:bF 0 d≤1000000000000000
  ·have hd:=(O4 d (by rw[TB hne h]; exact ha)).1
   have:=Q2 hv
   rw[hd] at this
   rw[ba_ this]
   rfl
  ·rw[bm_ hv,Bool.and_false]
theorem Zf {d:ag} (h:cW d 16=true):bF 0 d < 10000000000000000:=by
 unfold cW jM at h
 simp only[Z8,Z9] at h
 have:=B7 d 0 h.1.1.1
 have h2:10 ^ d.length≤10 ^ 16:=fe_ (by decide) h.2
 omega
theorem VM (n:Int):au (vN n)=bA n (-1000000000000000) 1000000000000000:=by
 unfold au vN
 simp
def qr (b:Bool) (n:Nat):Int:=if b=true then -(n:Int) else n
theorem Mx {b:Bool} {n:Nat}:au (vN (qr b n))=decide (n≤1000000000000000):=by
 rw[VM]
 unfold qr bA
 rw[ci_,Z9,Z9]
 cases b <;> simp <;> omega
theorem TD {d:ag} {b:Bool}:((dk (ba d) 16).bind fun z4=>(if b=true then(if z4.1.2.1=true then((iO (1,(gt_ gu_ (0 - z4.1.1)),(⟨#[]⟩:Z0),())).bind fun z5=>(some (((1,(gt_ gu_ (0 - z4.1.1)),(⟨#[]⟩:Z0),()),z5.1.1,()),(())))) else(some (((1,(gt_ gu_ (0 - z4.1.1)),(⟨#[]⟩:Z0),()),false,()),(())))) else(if z4.1.2.1=true then((iO (1,z4.1.1,(⟨#[]⟩:Z0),())).bind fun z6=>(some (((1,z4.1.1,(⟨#[]⟩:Z0),()),z6.1.1,()),(())))) else(some (((1,z4.1.1,(⟨#[]⟩:Z0),()),false,()),(()))))))
  = (some ((vN (qr b (if cW d 16=true then bF 0 d else 0)),(cW d 16 && decide (bF 0 d≤1000000000000000)),()),()):Option ((ae×Bool×Unit)×Unit)):=by
 have e:=Bl d (m:=16) (by decide)
 have e:dk (ba d) 16=_:=e
 rw[e]
 simp only[Z1]
 cases hr:cW d 16 with
 | false=>cases b <;> rfl
 | true =>
  have hlt:=Zf hr
  simp only[al_,bj_]
  cases b with
  | true =>
   simp only[al_]
   rw[wr (by omega) (by omega)]
   have ev:((1,0 - ((bF 0 d:Nat):Int),(⟨#[]⟩:Z0),()):ae)=vN (qr true (bF 0 d)):=by
    unfold vN qr
    rw[Z3 rfl,show(0:Int) - ((bF 0 d:Nat):Int) = -((bF 0 d:Nat):Int) by omega]
   rw[ev,nr (by show eS.size≤_; decide),Mx]
   rfl
  | false =>
   simp only[Z5,ad_]
   have ev:((1,((bF 0 d:Nat):Int),(⟨#[]⟩:Z0),()):ae)=vN (qr false (bF 0 d)):=rfl
   rw[ev,nr (by show eS.size≤_; decide),Mx]
   rfl
theorem Rh {b:Bool} : ∀(d:ag),d≠[]→d.length≤9223372036854775807 → ∃ v:ae,j8 (ba d) b 0 0 (⟨#[]⟩:Z0)=some ((v,jD d,()),())∧(jD d=true→v=vN (qr b (bF 0 d)))
 | [],h,_=>ay_ rfl h
 | c :: l,h,hl=>by
  have ft:(c :: l:ag).length=1∨(c :: l:ag).head? ≠ some 48 → ∃ v:ae,(some ((vN (qr b (if cW (c :: l) 16=true then bF 0 (c :: l) else 0)),(cW (c :: l) 16 && decide (bF 0 (c :: l)≤1000000000000000)),()),()):Option ((ae×Bool×Unit)×Unit))=some ((v,jD (c :: l),()),())∧(jD (c :: l)=true→v=vN (qr b (bF 0 (c :: l)))):=by
   intro hc
   rw[TC h hc]
   refine⟨_,rfl,fun ho => ?_⟩
   rw[←TC h hc,Z8] at ho
   rw[Z3 ho.1]
  rw[Fy,az]
  by_cases h1:1 < (c :: l:ag).length
  ·rw[aQ (by omega),nu,D2 c 48 (n:=48) rfl]
   by_cases h48:c=48
   ·subst h48
    rw[aQ rfl,show(1:Int)=((1:Nat):Int) from rfl,fB (by simp)]
    simp only[bh_,ce_]
    have hne:l≠[]:=by
     rintro rfl
     simp at h1
    have hll:l.length≤9223372036854775807:=by rw[aa_] at hl; omega
    obtain⟨v,e1,e2⟩:=Rh (b:=b) l hne hll
    have eo:jD (48 :: l)=jD l:=by
     unfold jD
     rfl
    rw[eo]
    exact⟨v,e1,e2⟩
   ·rw[aL h48,TD]
    exact ft (.inr (by simpa using h48))
  ·rw[aL (by omega),TD]
   exact ft (.inl (by simp only[aa_] at h1 ⊢; omega))
def My (w:ag):Bool:=decide (w.head? = some 45)
def ja (w:ag):ag:=if w.head? = some 45 then w.drop 1 else w
def gp (w:ag):Bool:=decide (ja w≠[]) && jD (ja w)
def kM (w:ag):Int:=qr (My w) (bF 0 (ja w))
theorem Bq {w:ag} (hw:w≠[]) (hl:w.length≤9223372036854775807) : ∃ v:ae,AO (ba w)=some ((v,gp w,()),())∧(gp w=true→v=vN (kM w)):=by
 cases w with
 | nil=>exact ay_ rfl hw
 | cons c l =>
  rw[Ls,az,aQ (by simp),nu,D2 c 45 (n:=45) rfl]
  by_cases hc:c=45
  ·subst hc
   have hm:ja (45 :: l)=l:=rfl
   have hg:My (45 :: l)=true:=rfl
   have e0:(Z6 (ba l) == Z6 (⟨#[]⟩:Z0))=decide (l=[]):=dn (b:=[])
   rw[aQ rfl,show(1:Int)=((1:Nat):Int) from rfl,fB (by simp)]
   simp only[bh_,ce_]
   rw[e0]
   unfold gp kM
   rw[hm,hg]
   by_cases hn:l=[]
   ·rw[aQ hn]
    subst hn
    exact⟨_,rfl,fun h=>by cases h⟩
   ·rw[aL hn]
    obtain⟨v,e1,e2⟩:=Rh (b:=true) l hn (by rw[aa_] at hl; omega)
    refine⟨v,?_,fun h => ?_⟩
    ·simpa[hn] using e1
    ·rw[Z8] at h
     exact e2 h.2
  ·have hm:ja (c :: l)=c :: l:=Z2 (by simpa using hc)
   have hg:My (c :: l)=false:=bm_ (by simpa using hc)
   have e0:(Z6 (ba (c :: l)) == Z6 (⟨#[]⟩:Z0))=decide (c :: l=[]):=dn (b:=[])
   rw[aL hc,e0,aL (by simp)]
   unfold gp kM
   rw[hm,hg]
   obtain⟨v,e1,e2⟩:=Rh (b:=false) (c :: l) (by simp) hl
   refine⟨v,?_,fun h => ?_⟩
   ·simpa[hc] using e1
   ·rw[Z8] at h
    exact e2 h.2
theorem YA:(fun c=>([48,49,50,51,52,53,54,55,56,57]:ag).contains c)=dy:=funext fun c=>pw (p:=fun c=>([48,49,50,51,52,53,54,55,56,57]:ag).contains c=dy c) (by decide +kernel) c
theorem Ga {p:UInt8→Bool} : ∀ {l:ag} {x:UInt8} {t:ag},l.dropWhile p=x :: t→p x=false
 | c :: l,x,t,h=>by
  cases hc:p c with
  | true =>
   rw[fb_ hc] at h
   exact Ga h
  | false =>
   rw[au_ (by rw[hc]; decide)] at h
   cases h
   exact hc
theorem vo {p:UInt8→Bool} : ∀ {l:ag},l.dropWhile p=[]↔l.all p=true
 | []=>by simp
 | c :: l=>by
  cases hc:p c with
  | true=>rw[fb_ hc,vo]; simp[hc]
  | false=>rw[au_ (by rw[hc]; decide)]; simp[hc]
theorem VN (d:ag):(Lib.trimS d [48,49,50,51,52,53,54,55,56,57]=[])↔d.all dy=true:=by
 unfold Lib.trimS Lib.trimLeftS Lib.trimRightS
 rw[YA,vo]
 constructor
 ·intro h
  cases hr:d.reverse.dropWhile dy with
  | nil =>
   rw[vo] at hr
   simpa using hr
  | cons x t =>
   have hx:=Ga hr
   rw[hr] at h
   simp only[List.all_reverse,bp_,Z8] at h
   rw[hx] at h
   cases h.1
 ·intro h
  have:d.reverse.dropWhile dy=[]:=vo.2 (by simpa using h)
  rw[this]
  rfl
theorem Mz {w:ag} (hl:w.length≤1000000):AR (ba w)=some (((decide (ja w≠[]) && (ja w).all dy),()),()):=by
 have hp:lS (ba w) (⟨#[45]⟩:Z0)=some ((ba (ja w),()),()):=by
  rw[w9,sn,show(⟨#[45]⟩:Z0)=ba [45] from rfl,vY _ _ (by omega)]
  simp only[Z1,D0]
  unfold ja
  by_cases h:w.head? = some 45
  ·obtain⟨t,rfl⟩:=iA h
   rw[aQ h,Z3 h,az,fB (by simp)]
   rfl
  ·rw[aL h,Z2 h]
   rfl
 rw[Lt,hp]
 simp only[Z1]
 have e0 : ∀ x:ag,(Z6 (ba x) == Z6 (⟨#[]⟩:Z0))=decide (x=[]):=fun x=>dn (b:=[])
 have hm:(ja w).length≤w.length:=by
  unfold ja
  split <;> simp
 rw[e0]
 by_cases hn:ja w=[]
 ·simp[hn]
 ·have ht:tH (ba (ja w)) (⟨#[48,49,50,51,52,53,54,55,56,57]⟩:Z0)=some ((ba (Lib.trimS (ja w) [48,49,50,51,52,53,54,55,56,57]),()),()):=by
   rw[Fu]
   show(if th (ba [48,49,50,51,52,53,54,55,56,57])=true∧(ba (ja w)).size≤9223372036854775807 then some (((⟨(Lib.trimS (lb (ba (ja w))) (lb (ba [48,49,50,51,52,53,54,55,56,57]))).toArray⟩:Z0),()),()) else none)=_
   rw[Z3 ⟨by decide +kernel,by rw[az]; omega⟩,dC,dC]
  rw[ht]
  simp only[Z1,hn,ca_,as_,al_,e0,ne_eq,not_false_eq_true,bv_,bj_]
  congr 3
  rw[ci_,Z9]
  exact VN _
theorem MA : ∀(l:ag) (a u:Nat),l.all dy=true→ew_ 18446744073709551615 a l = .ok u→u=bF a l
 | [],a,u,_,h=>by
  cases h
  rfl
 | c :: l,a,u,h,hp=>by
  simp only[bp_,Z8] at h
  have hd:48≤c.toNat∧c.toNat≤57:=by simpa[dy] using h.1
  unfold ew_ at hp
  rw[Z3 hd] at hp
  split at hp
  ·cases hp
  ·split at hp
   ·cases hp
   ·exact MA l _ u h.2 hp
theorem IL {w:ag} (hne:ja w≠[]) (hd:(ja w).all dy=true) (h:(cu w).2=true):(cu w).1=kM w:=by
 unfold cu at h ⊢
 cases hp:dp_ 64 w with
 | range=>rw[hp] at h; cases h
 | ok v =>
  simp only
  cases w with
  | nil=>exact ay_ rfl hne
  | cons c l =>
   unfold dp_ at hp
   simp only at hp
   unfold kM
   by_cases hc:c=45
   ·subst hc
    have hm:ja (45 :: l)=l:=rfl
    have hg:My (45 :: l)=true:=rfl
    rw[hm] at hne hd
    have h45:(45:UInt8).toNat=45:=rfl
    rw[Z3 (.inr h45)] at hp
    unfold gd_ at hp
    rw[Z2 hne] at hp
    cases hu:ew_ (2 ^ 64 - 1) 0 l with
    | range=>rw[hu] at hp; cases hp
    | ok u =>
     rw[hu] at hp
     have:=MA l 0 u hd hu
     simp only at hp
     split at hp
     ·cases hp
     ·split at hp
      ·cases hp
      ·cases hp
       rw[hm,hg,this]
       rfl
    | _=>rw[hu] at hp; cases hp
   ·have hm:ja (c :: l)=c :: l:=Z2 (by simpa using hc)
    have hg:My (c :: l)=false:=bm_ (by simpa using hc)
    rw[hm] at hd
    have hcd:48≤c.toNat∧c.toNat≤57:=by
     simp only[bp_,Z8] at hd
     simpa[dy] using hd.1
    rw[Z2 (by omega)] at hp
    unfold gd_ at hp
    rw[Z2 (by simp)] at hp
    cases hu:ew_ (2 ^ 64 - 1) 0 (c :: l) with
    | range=>rw[hu] at hp; cases hp
    | ok u =>
     rw[hu] at hp
     have:=MA (c :: l) 0 u hd hu
     simp only at hp
     split at hp
     ·cases hp
     ·split at hp
      ·cases hp
      ·rw[Z2 (by omega)] at hp
       cases hp
       rw[hm,hg,this]
       rfl
    | _=>rw[hu] at hp; cases hp
 | _=>rw[hp] at h; cases h
theorem N3 {w:ag} (h:gp w=true):cu w=(kM w,true):=by
 unfold gp jD at h
 simp only[Z8,Z9] at h
 obtain⟨hne,hd,hv⟩:=h
 have hp2:(cu w).2=true:=by
  cases w with
  | nil=>exact ay_ rfl hne
  | cons c l =>
   by_cases hc:c=45
   ·subst hc
    have hm:ja (45 :: l)=l:=rfl
    rw[hm] at hne hd hv
    have h45:(45:UInt8).toNat=45:=rfl
    have hu:ew_ (2 ^ 64 - 1) 0 l = .ok (bF 0 l):=J2 l 0 hd (by omega)
    have:dp_ 64 (45 :: l) = .ok (-((bF 0 l:Nat):Int)):=by
     unfold dp_
     simp only
     rw[Z3 (.inr h45)]
     unfold gd_
     rw[Z2 hne,hu]
     simp only
     rw[Z2 (by omega),Z2 (by omega)]
     rfl
    unfold cu
    rw[this]
   ·have hm:ja (c :: l)=c :: l:=Z2 (by simpa using hc)
    rw[hm] at hd hv
    have hcd:48≤c.toNat∧c.toNat≤57:=by
     have hd':=hd
     simp only[bp_,Z8] at hd'
     simpa[dy] using hd'.1
    have hu:ew_ (2 ^ 64 - 1) 0 (c :: l) = .ok (bF 0 (c :: l)):=J2 (c :: l) 0 hd (by omega)
    have:dp_ 64 (c :: l) = .ok ((bF 0 (c :: l):Nat):Int):=by
     unfold dp_
     simp only
     rw[Z2 (by omega)]
     unfold gd_
     rw[Z2 (by simp),hu]
     simp only
     rw[Z2 (by omega),Z2 (by omega),Z2 (by omega)]
    unfold cu
    rw[this]
 exact es_ (IL hne hd hp2) hp2
theorem YB {w:ag} (h:gp w=false) (h1:(cu w).2=true) (h2:(decide (ja w≠[]) && (ja w).all dy)=true):au (vN (cu w).1)=false:=by
 simp only[Z8,Z9] at h2
 rw[IL h2.1 h2.2 h1]
 unfold kM
 rw[Mx]
 unfold gp jD at h
 rw[ba_ h2.1,h2.2] at h
 simpa using h
theorem yZ {w:ag} (h:gp w=true) : -1000000000000000≤kM w∧kM w≤1000000000000000:=by
 unfold gp jD at h
 simp only[Z8,Z9] at h
 unfold kM qr
 split <;> omega
theorem za {x:Z0} (hx:x.size≤9223372036854775807) : ∃(t:ag) (b:Bool),tI x=some ((ba t,b,()),())∧qb x=some ((ba t,b,()),())∧t.length≤200:=by
 obtain⟨w,rfl⟩ : ∃ s,x=ba s:=⟨lb x,(fm x).symm⟩
 rw[ND,C1,qQ hx,sr hx]
 simp only[Z1]
 have e0 : ∀ x:ag,(Z6 (ba x) == Z6 (⟨#[]⟩:Z0))=decide (x=[]):=fun x=>dn (b:=[])
 rw[e0]
 cases hp:(plain (ba w) && decide (((ba w).size:Int)≤200)) with
 | false =>
  have hw:w≠[]:=by
   rintro rfl
   exact ay_ hp (by decide)
  rw[bm_ hw]
  exact⟨[],false,rfl,rfl,by simp⟩
 | true =>
  have hp':=hp
  rw[Z8,Z9,az] at hp'
  have hl:w.length≤200:=by omega
  simp only[aj_,Z5,ad_]
  by_cases hw:w=[]
  ·subst hw
   exact⟨[],true,rfl,rfl,by simp⟩
  ·rw[aL hw,aL hw]
   have hcut:cD (ba w) (⟨#[61]⟩:Z0)=_:=rx w [61] (by omega)
   rw[hcut]
   simp only[Z1,D0]
   cases w with
   | nil=>exact ay_ rfl hw
   | cons c l =>
    rw[nu,D2 c 61 (n:=61) rfl]
    by_cases hc:c=61
    ·subst hc
     have hll:l.length≤200:=by rw[aa_] at hl; omega
     simp only[cr_,bv_,al_,Z4,bh_,ce_]
     rw[show(1:Int)=((1:Nat):Int) from rfl,fB (by simp)]
     simp only[bh_,ce_]
     obtain⟨f,b,r1,r2,r3,r4⟩:=J3 (x:=ba l) (by rw[az]; omega)
     rw[r1,r2]
     simp only[Z1]
     have hsm:f.length≤10000000∧(∀ x∈f,x.2.2.1.2.2.1.size≤9223372036854775807) ∧ ∀ x∈f,x.2.2.2.2.2.1.length≤10000000:=by
      cases b with
      | false=>rw[r4 rfl]; simp
      | true =>
       have ho:=r3 rfl
       have hs:dL f=true:=by
        unfold dL
        rw[cc_]
        intro y hy
        obtain⟨i,hi⟩:=gj_ hy
        exact(iu ho i y hi).1
       have ho':=ho
       unfold dJ at ho'
       rw[Z8] at ho'
       have:=aH.1 ho'.1
       exact⟨by omega,Hc (ui hs),Hd (ui hs)⟩
     obtain⟨t,t1,t2,t3⟩:=Hf hsm.1 hsm.2.1 hsm.2.2
     rw[t2,A6,t1]
     simp only[Z1]
     rw[show(⟨#[61]⟩:Z0)=ba [61] from rfl,bB (by simp only[Z4]; omega),e0,az]
     cases b with
     | false =>
      simp only[as_,al_]
      refine⟨[],false,?_,rfl,by simp⟩
      by_cases ht:t=[] <;> simp[ht]
     | true =>
      simp only[aj_,Z5,ad_]
      by_cases ht:t=[]
      ·refine⟨[],false,?_,?_,by simp⟩ <;> simp[ht]
      ·rw[wr (by omega) (by omega)]
       by_cases h2:t.length < 200
       ·refine⟨61 :: t,true,?_,?_,by rw[aa_]; omega⟩
        ·rw[bm_ ht,ba_ (show(t.length:Int) < 200 by omega)]
         rfl
        ·rw[aL ht,aL (by omega),bB (by simp only[Z4]; omega)]
         rfl
       ·refine⟨[],false,?_,?_,by simp⟩
        ·rw[bm_ ht,bm_ (show ¬(t.length:Int) < 200 by omega)]
         rfl
        ·rw[aL ht,aQ (by omega)]
    ·have hnc : ¬(some c=some (61:UInt8)):=by simpa using hc
     simp only[cr_,hnc,ca_,Z5,ad_,hc]
     generalize hwd:(c :: l:ag)=w at *
     have hsz:(ba w).size=w.length:=az w
     rw[wa (by omega)]
     obtain⟨v,n1,n2⟩:=Bq hw (by omega)
     rw[n1,Mz (by omega),nS (by omega),rN (by omega)]
     simp only[Z1,jx]
     rw[eJ (by show eS.size≤_; decide)]
     simp only[Z1]
     have tail : ∃(t:ag) (b:Bool),(if(bk w).2=true then(some ((ba w,true,()),(())):Option ((Z0×Bool×Unit)×Unit)) else(if((ao_ (ba w):Int) == 200)=true then(some (((⟨#[]⟩:Z0),false,()),(()))) else(cats (⟨#[39]⟩:Z0) (ba w) fun y2=>(some ((y2,true,()),(()))))))=some ((ba t,b,()),())
       ∧ (if(!(bk w).2)=true then((ju (2,0,ba w,())).bind fun z7=>(if(decide ((ao_ z7.1.1:Int) > 200))=true then(some (((⟨#[]⟩:Z0),false,()),(()))) else(some ((z7.1.1,true,()),(()))))) else((ju (bk w).1).bind fun z8=>(if(decide ((ao_ z8.1.1:Int) > 200))=true then(some (((⟨#[]⟩:Z0),false,()),(()))) else(some ((z8.1.1,true,()),(()))))))=some ((ba t,b,()),())∧t.length≤200:=by
      cases hr:(bk w).2 with
      | true =>
       obtain⟨k1,k2⟩:=od hr
       refine⟨w,true,rfl,?_,hl⟩
       simp only[aj_,Z5,ad_]
       rw[hJ (dM k1),Z3 k1,k2]
       simp only[Z1]
       rw[aL (by rw[hsz]; omega)]
      | false =>
       simp only[as_,Z5,ad_,al_]
       have hov:au (2,0,ba w,())=true:=by
        unfold au
        rw[Z3 rfl]
        simp only[bv_,bj_]
        exact hp
       have htx:cH (2,0,ba w,())=ba (39 :: w):=by
        show(⟨#[39]⟩:Z0)++ba w=_
        rw[show(⟨#[39]⟩:Z0)=ba [39] from rfl,nt]
        rfl
       rw[hJ (dM hov),Z3 hov,htx,QQ (by omega),show(⟨#[39]⟩:Z0)=ba [39] from rfl,nt]
       simp only[Z1,az,aa_]
       by_cases h2:w.length=200
       ·rw[Z3 (by simp[h2]),aQ (by omega)]
        exact⟨[],false,rfl,rfl,by simp⟩
       ·rw[Z2 (by simp only[beq_iff_eq]; omega),aL (by omega)]
        exact⟨39 :: w,true,rfl,rfl,by rw[aa_]; omega⟩
     cases ho:gp w with
     | true =>
      have hpv:=N3 ho
      have hrg:=yZ ho
      have hdg:(decide (ja w≠[]) && (ja w).all dy)=true:=by
       unfold gp jD at ho
       simp only[Z8] at ho ⊢
       exact⟨ho.1,ho.2.1⟩
      have hok:au (vN (kM w))=true:=by
       rw[VM]
       exact aH.2 hrg
      have hit:=pu (n:=kM w) (by omega) (by omega)
      rw[n2 ho,hpv,hdg]
      simp only[al_,hok]
      rw[vX (by omega) (by omega),hJ (dM hok),Z3 hok]
      refine⟨lb (dr (kM w)),true,?_,?_,by rw[li]; omega⟩
      ·rw[fm]; rfl
      ·rw[fm]; rfl
     | false =>
      obtain⟨t,b,s1,s2,s3⟩:=tail
      refine⟨t,b,?_,?_,s3⟩
      ·cases h1:(cu w).2 with
       | false=>simpa using s1
       | true =>
        cases h2:(decide (ja w≠[]) && (ja w).all dy) with
        | false=>simpa using s1
        | true =>
         rw[YB ho h1 h2]
         simpa using s1
      ·simpa using s2
noncomputable def fC (x:Z0):Z0×Bool:=if h:x.size≤9223372036854775807 then(ba (za h).choose,(za h).choose_spec.choose) else(eS,false)
theorem uj {x:Z0} (h:x.size≤9223372036854775807):tI x=some (((fC x).1,(fC x).2,()),())∧qb x=some (((fC x).1,(fC x).2,()),())∧(fC x).1.size≤200:=by
 have hs:=(za h).choose_spec.choose_spec
 unfold fC
 rw[dif_pos h]
 exact⟨hs.1,hs.2.1,by rw[az]; exact hs.2.2⟩
noncomputable def fo (x:Z0):Bool:=(fC x).2 && !decide (x=eS) && decide ((fC x).1=x)
theorem Br {x:Z0} (h:x.size≤9223372036854775807):uO x=some ((fo x,()),()):=by
 rw[Lu,(uj h).1]
 simp only[Z1,q6]
 unfold fo
 cases (fC x).2 <;> by_cases hx:x=eS <;> simp[hx]
def cA (a b:aw):Bool:=decide (a.2.1 < b.2.1) || (decide (a.2.1=b.2.1) && decide (a.1 < b.1))
theorem Dc (a b:aw):yr a b=some ((cA a b,()),()):=by
 rw[Nx]
 unfold cA
 by_cases h1:a.2.1 < b.2.1
 ·simp[h1]
 ·by_cases h2:a.2.1=b.2.1 <;> simp[h1,h2]
theorem Gb (a b:aw) : ∃ k:Int,lQ a b=some ((k,()),())∧(k < 0↔cA a b=true):=by
 rw[uX,vf,vf]
 simp only[Z1]
 rw[DY (by simp)]
 refine⟨_,rfl,?_⟩
 unfold cA
 by_cases h1:a.2.1 < b.2.1
 ·simp[kJ,h1]
 ·by_cases h2:b.2.1 < a.2.1
  ·have h3 : ¬a.2.1=b.2.1:=by omega
   simp[kJ,h1,h2,h3]
  ·have h3:a.2.1=b.2.1:=by omega
   by_cases h4:a.1 < b.1
   ·simp[kJ,h1,h2,h3,h4]
   ·by_cases h5:b.1 < a.1
    ·simp[kJ,h1,h2,h3,h4,h5]
    ·simp[kJ,h1,h2,h3,h4,h5]
noncomputable def Bs:Option ac→List ac→Bool
 | _,[]=>true
 | o,c :: l=>aA c.1 && fo c.2.1 && (match o with | none=>true | some p=>cA p.1 c.1) && Bs (some c) l
noncomputable def bd (s:List ac):Bool:=Bs none s && decide (s.length≤120)
section
variable {s:List ac} (hs : ∀ c∈s,c.2.1.size≤9223372036854775807) (hl:s.length≤1000000000)
include hs hl
theorem zJ : ∀(ys pre:List ac),s=pre++ys→np s s (s.length:Int) (pre.length:Int)=some ((Bs pre.getLast? ys && decide (s.length≤120),()),())
 | [],pre,h=>by
  rw[xk,aL (ci h)]
  simp only[Bs,bj_]
  congr 3
  rw[ci_,Z9,Z9]
  omega
 | y :: ys,pre,h=>by
  have hy:=hs y (by rw[h]; simp)
  have ih:=zJ ys (pre++[y]) (aU h)
  rw[et_] at ih
  simp only[eg_,Option.or_some,gc_] at ih
  rw[xk,aQ (cr h),bI h,l5]
  simp only[Z1,Bs]
  cases hr:aA y.1 with
  | false=>simp
  | true =>
   simp only[aj_,Z5,ad_,bj_]
   rcases List.eq_nil_or_concat pre with hp | ⟨q,z,hp⟩
   ·subst hp
    rw[aL (by simp),Br hy]
    simp only[Z1,List.getLast?_nil,el_]
    cases fo y.2.1 with
    | false=>simp
    | true =>
     simp only[aj_,Z5,ad_,bj_]
     rw[bi (pre:=[]) h (by omega)]
     exact ih
   ·rw[List.concat_eq_append] at hp
    subst hp
    have hz:s=q++z :: (y :: ys):=by rw[h]; simp
    have hql:((q++[z]).length:Int) - 1=(q.length:Int):=by simp
    have hqs:q.length < s.length:=by rw[hz]; simp
    rw[aQ (by simp),hql,wr (by omega) (by omega),bI hz]
    obtain⟨k,k1,k2⟩:=Gb z.1 y.1
    rw[k1]
    simp only[Z1,et_,eg_,gc_]
    by_cases hk:k < 0
    ·rw[aL (by omega),Br hy,k2.1 hk]
     simp only[Z1,el_]
     cases fo y.2.1 with
     | false=>simp
     | true =>
      simp only[aj_,Z5,ad_,bj_]
      rw[bi h (by omega)]
      exact ih
    ·have:cA z.1 y.1=false:=by
      rw[bt_]
      exact fun e=>hk (k2.2 e)
     rw[aQ (by omega),this]
     simp
theorem wd:tJ s=some ((bd s,()),()):=by
 rw[NE]
 exact zJ hs hl s [] rfl
end
def Wv (c:UInt8):Bool:=decide (c=43) || decide (c=45) || decide (c=42) || decide (c=47) || decide (c=38) || decide (c=61) || decide (c=60) || decide (c=62) || decide (c=41) || decide (c=44)
def zK:ag→Bool
 | []=>true
 | c :: _=>Wv c
theorem Hi (c:UInt8):Wv c=true→aP c=false∧c≠32∧c≠34∧c≠58∧c≠40∧Bn c=false :=
 pw (p:=fun c=>Wv c=true→aP c=false∧c≠32∧c≠34∧c≠58∧c≠40∧Bn c=false) (by decide +kernel) c
theorem Ri {r:ag} (h:zK r=true):bl r=r:=by
 cases r with
 | nil=>rfl
 | cons c t=>exact au_ (by rw[(Hi c h).2.2.2.2.2]; decide)
theorem Rj {r:ag} (h:zK r=true):r.takeWhile aP=[]∧r.dropWhile aP=r:=by
 cases r with
 | nil=>exact⟨rfl,rfl⟩
 | cons c t =>
  have:=(Hi c h).1
  exact⟨List.takeWhile_cons_of_neg (by rw[this]; decide),au_ (by rw[this]; decide)⟩
theorem Ww {r:ag} (h:zK r=true):r.head? ≠ some 34∧r.head? ≠ some 58∧r.head? ≠ some 32:=by
 cases r with
 | nil=>exact⟨by decide,by decide,by decide⟩
 | cons c t =>
  obtain⟨_,h1,h2,h3,_⟩:=Hi c h
  simp only[cr_,ne_eq,ap_]
  exact⟨h2,h3,h1⟩
theorem vp {w r:ag} (hw:w.all aP=true) (h:r.takeWhile aP=[]∧r.dropWhile aP=r):(w++r).takeWhile aP=w∧(w++r).dropWhile aP=r:=by
 rw[cc_] at hw
 obtain⟨h1,h2⟩:=h
 rw[List.takeWhile_append_of_pos hw,List.dropWhile_append_of_pos hw,h1,h2,bz_]
 exact⟨rfl,rfl⟩
theorem D9 {w r:ag} (hw:w.all aP=true) (h:zK r=true):(w++r).takeWhile aP=w∧(w++r).dropWhile aP=r:=vp hw (Rj h)
theorem Rk {op:Int} (h0:1≤op) (h1:op≤11) (t:ag):zK (du op++t)=true:=by
 have : ∀ k:Fin 12,1≤k.val→(match du (k.val:Int) with | []=>false | c :: _=>Wv c)=true:=by decide +kernel
 have h:=this ⟨op.toNat,by omega⟩ (by simp only; omega)
 simp only[cd_ (show 0≤op by omega)] at h
 cases ho:du op with
 | nil=>rw[ho] at h; cases h
 | cons c l =>
  rw[ho] at h
  exact h
def TE (c:UInt8):Bool:=aP c || decide (c=34) || decide (c=35) || decide (c=40) || decide (c=45)
theorem Pg (c:UInt8):TE c=true→c≠32∧c≠61∧c≠62∧Bn c=false :=
 pw (p:=fun c=>TE c=true→c≠32∧c≠61∧c≠62∧Bn c=false) (by decide +kernel) c
def IM:ag→Bool
 | []=>false
 | c :: _=>TE c
theorem Rl {m:ag} (h:IM m=true):bl m=m:=by
 cases m with
 | nil=>cases h
 | cons c t=>exact au_ (by rw[(Pg c h).2.2.2]; decide)
theorem qu {m:ag} (h:IM m=true) (r:ag):IM (m++r)=true:=by
 cases m with
 | nil=>cases h
 | cons c t=>exact h
theorem TF {op:Int} (h0:1≤op) (h1:op≤11) {t:ag} (h:IM t=true):d8 (du op++t)=op:=by
 cases t with
 | nil=>cases h
 | cons c t =>
  obtain⟨_,h2,h3,_⟩:=Pg c h
  have:op=1∨op=2∨op=3∨op=4∨op=5∨op=6∨op=7∨op=8∨op=9∨op=10∨op=11:=by omega
  rcases this with rfl | rfl | rfl | rfl | rfl | rfl | rfl | rfl | rfl | rfl | rfl <;> simp[du,d8,gO,h2,h3]
theorem Ea (op:Int):1≤cz op∧cz op≤4:=by
 unfold cz
 repeat' split
 all_goals omega
theorem J5 {r:ag} (h:r=[]∨r.head? = some 41∨r.head? = some 44):zK r=true∧d8 r=0:=by
 rcases h with rfl | h | h
 ·exact⟨rfl,rfl⟩
 ·obtain⟨t,rfl⟩:=iA h
  exact⟨rfl,rfl⟩
 ·obtain⟨t,rfl⟩:=iA h
  exact⟨rfl,rfl⟩
theorem TG {l:ag} (h:l.all dy=true):l.all aP=true:=by
 rw[cc_] at h ⊢
 intro c hc
 unfold aP
 rw[h c hc]
 simp
theorem Zg {l:ag} (h:l.all eL=true):l.all aP=true:=by
 rw[cc_] at h ⊢
 intro c hc
 unfold aP
 rw[h c hc]
 simp
theorem nT {p:aM} (h:aA p.1=true):(fj p).all aP=true ∧ ∃ c t,fj p=c :: t∧(c=36∨eL c=true):=by
 obtain⟨c,r,fc,fr,rfl,h1,h2,h3,h4⟩:=vj h
 have hu:(gJ c).all eL=true:=G4 ⟨c,by omega⟩ h1
 have hd:=Ca (qg r)
 have hx : ∀ b,(py b).all aP=true:=by decide
 show(rX c r fc fr).all aP=true ∧ ∃ d t,rX c r fc fr=d :: t∧_
 unfold rX
 refine⟨?_,?_⟩
 ·rw[cf_,cf_,cf_,hx,hx,Zg hu,TG hd]
  rfl
 ·cases fc with
  | true=>exact⟨36,_,rfl,.inl rfl⟩
  | false =>
   cases hcl:gJ c with
   | nil =>
    have:=(qj c).1
    rw[hcl] at this
    simp at this
   | cons y l =>
    rw[hcl] at hu
    simp only[bp_,Z8] at hu
    exact⟨y,_,rfl,.inr hu.1⟩
theorem Wx (c:UInt8):(c=36∨eL c=true)→c≠39∧c≠35∧c≠45∧c≠34∧c≠40∧dy c=false :=
 pw (p:=fun c=>(c=36∨eL c=true)→c≠39∧c≠35∧c≠45∧c≠34∧c≠40∧dy c=false) (by decide +kernel) c
theorem VO {p:aM} (h:aA p.1=true):(bk (fj p)).2=false:=by
 obtain⟨_,c,t,e,hc⟩:=nT h
 obtain⟨n1,n2,n3,_,_,n4⟩:=Wx c hc
 have hp:=oE h
 have k : ∀ w:ag,(cO w).2=false→fj p≠w:=fun w hw e=>by
  rw[←e,hp] at hw
  cases hw
 have k1:=k jf (by decide +kernel)
 have k2:=k jB (by decide +kernel)
 have hv:vk (fj p)=(9,0,eS,()):=by
  unfold vk
  rw[Z2 k1,Z2 k2,e,Z2 (by simp),Z2 (by simpa using n1),Z2 (by simpa using n2),Z2 (by simpa using n3),Z2]
  intro hr
  unfold cW jM at hr
  simp[n4] at hr
 unfold bk
 rw[hv]
 rfl
theorem TH {f:List ab} {k:Nat} {x:ab} (h:f[k]? = some x):f.take k++[x]=f.take (k+1):=by
 rw[List.take_add_one,h]
 rfl
theorem Bt {f:List ab} (hf:f.length≤60) {k:Nat} {x:ab} (h:f[k]? = some x) (l:ag):aI x (ba l) false (f.take k)=some (((k:Int),()),((ba l,f.take (k+1),false,()),())):=by
 have hk:=(List.getElem?_eq_some_iff.1 h).1
 have hl:(f.take k).length=k:=by rw[List.length_take]; omega
 obtain⟨i,h1,h2⟩:=xA (x:=x) (l:=l) (b:=false) (ns:=f.take k) (by omega)
 rw[h1,h2 rfl (by omega),hl,Z3 ⟨rfl,by omega⟩,TH h,bm_ (by omega)]
 rfl
def Gc (f:List ab) (n:Nat) (call:Bool):List Int→Int→Int→Prop
 | [],s,e=>s=e
 | y :: ys,s,e=>(∃ h,dt f n y=some (s,h))∧(eK f y=true→call=true)∧Gc f n call ys (y+1) e
theorem MB {f:List ab} {n:Nat} {call:Bool} {kid m s e:Int} (hc : ∃ h,dt f n kid=some (m,h)) (ha:eK f kid=true→call=true) (he:kid+1=e) : ∀ {l:List Int} {s:Int},Gc f n call l s m→Gc f n call (l++[kid]) s e
 | [],s,h=>by
  have h:s=m:=h
  subst h
  exact⟨hc,ha,he⟩
 | y :: ys,s,h=>⟨h.1,h.2.1,MB (s:=s) hc ha he h.2.2⟩
theorem TI {f:List ab} {n:Nat} {call:Bool} : ∀ {l:List Int} {cur:Int} {h:Nat} {s:Int} {h':Nat},et (dt f n) f call l cur h=some (s,h')→Gc f n call l.reverse s cur
 | [],cur,h,s,h',e=>by
  simp only[et,ap_,Prod.mk.injEq] at e
  exact e.1.symm
 | kid :: l,cur,h,s,h',e=>by
  simp only[et] at e
  split at e
  ·rename_i hk
   rw[Option.bind_eq_some_iff] at e
   obtain⟨p,hp,e⟩:=e
   rw[List.reverse_cons]
   exact MB (s:=s) ⟨p.2,hp⟩ hk.2.2 (by omega) (TI e)
  ·cases e
theorem qv {f:List ab} {n:Nat} {k s:Int} {h:Nat} (e:dt f (n+1) k=some (s,h)):0≤k ∧ ∃ x,f[k.toNat]? = some x∧b8 f k=x∧bR x=true∧Gc f n (decide (x.1=6)) x.2.2.2.2.2.1 s k:=by
 simp only[dt] at e
 split at e
 ·rename_i h0
  split at e
  ·cases e
  ·rename_i x hx
   split at e
   ·rename_i hok
    refine⟨h0,x,hx,?_,hok,?_⟩
    ·unfold b8
     rw[ak_,hx]
     rfl
    ·have:=TI e
     rwa[List.reverse_reverse] at this
   ·cases e
 ·cases e
theorem Bu {f:List ab} {k:Int} {x:ab} (h:b8 f k=x):eK f k=decide (x.1=3):=by
 unfold b8 at h
 unfold eK
 rw[h]
theorem qw {x y:ab} (h1:x.1=y.1) (h2:x.2.1=y.2.1) (h3:x.2.2.1=y.2.2.1) (h4:x.2.2.2.1=y.2.2.2.1) (h5:x.2.2.2.2.1=y.2.2.2.2.1) (h6:x.2.2.2.2.2.1=y.2.2.2.2.2.1):x=y :=
 es_ h1 (es_ h2 (es_ h3 (es_ h4 (es_ h5 (es_ h6 rfl)))))
theorem YC {x:ab} (h:kl x=0):x.2.2.2.2.2.1=[]:=by
 unfold kl at h
 exact List.eq_nil_of_length_eq_zero (by omega)
theorem ZP {x:ab} (h:kl x=1) : ∃ a,x.2.2.2.2.2.1=[a]:=by
 unfold kl at h
 exact List.length_eq_one_iff.1 (by omega)
theorem ZQ {x:ab} (h:kl x=2) : ∃ a b,x.2.2.2.2.2.1=[a,b]:=by
 unfold kl at h
 match hx:x.2.2.2.2.2.1,h with
 | [a,b],_=>exact⟨a,b,rfl⟩
inductive NK:ab→Prop
 | con (v:ae) (h:au v=true) (h0:v.1≠0) (h1:v.1=1→0≤v.2.1):NK (nC v)
 | cell (p:aM) (h:aA p.1=true):NK (nP p)
 | area (p q:aM) (h:cy (p.1,q.1,())=true):NK (nA p q)
 | neg (a:Int):NK (4,0,v0,p0,p0,[a],())
 | bin (op a b:Int) (h0:1≤op) (h1:op≤11):NK (5,op,v0,p0,p0,[a,b],())
 | call (op:Int) (ks:List Int) (h:i7 op (ks.length:Int)=true):NK (6,op,v0,p0,p0,ks,())
theorem sA {x:ab} (h:bR x=true):NK x:=by
 unfold bR at h
 by_cases c1:x.1=1
 ·rw[Z3 c1] at h
  simp only[Z8,cx_,Z9,cz_,decide_eq_false_iff_not] at h
  obtain⟨⟨⟨⟨⟨⟨a1,a2⟩,a3⟩,a4⟩,a5⟩,a6⟩,a7⟩:=h
  have e:x=nC x.2.2.1:=qw c1 a1 rfl a2 a3 (YC a4)
  rw[e]
  exact .con _ a5 a6 (fun k=>a7.elim (fun n=>ay_ k n) id)
 ·rw[Z2 c1] at h
  by_cases c2:x.1=2
  ·rw[Z3 c2] at h
   simp only[Z8,Z9] at h
   obtain⟨⟨⟨⟨a1,a2⟩,a3⟩,a4⟩,a5⟩:=h
   have e:x=nP x.2.2.2.1:=qw c2 a1 a2 rfl a3 (YC a4)
   rw[e]
   exact .cell _ a5
  ·rw[Z2 c2] at h
   by_cases c3:x.1=3
   ·rw[Z3 c3] at h
    simp only[Z8,Z9] at h
    obtain⟨⟨⟨a1,a2⟩,a4⟩,a5⟩:=h
    have e:x=nA x.2.2.2.1 x.2.2.2.2.1:=qw c3 a1 a2 rfl rfl (YC a4)
    rw[e]
    exact .area _ _ a5
   ·rw[Z2 c3] at h
    by_cases c4:x.1=4
    ·rw[Z3 c4] at h
     simp only[Z8,Z9] at h
     obtain⟨⟨⟨⟨a1,a2⟩,a3⟩,a4⟩,a5⟩:=h
     obtain⟨a,ha⟩:=ZP a5
     have e:x=(4,0,v0,p0,p0,[a],()):=qw c4 a1 a2 a3 a4 ha
     rw[e]
     exact .neg a
    ·rw[Z2 c4] at h
     by_cases c5:x.1=5
     ·rw[Z3 c5] at h
      simp only[Z8,Z9] at h
      obtain⟨⟨⟨⟨a1,a2⟩,a3⟩,a4⟩,a5⟩:=h
      obtain⟨a,b,ha⟩:=ZQ a5
      obtain⟨g0,g1⟩:=aH.1 a1
      have e:x=(5,x.2.1,v0,p0,p0,[a,b],()):=qw c5 rfl a2 a3 a4 ha
      rw[e]
      exact .bin _ a b g0 g1
     ·rw[Z2 c5] at h
      by_cases c6:x.1=6
      ·rw[Z3 c6] at h
       simp only[Z8,Z9] at h
       obtain⟨⟨⟨a1,a2⟩,a3⟩,a4⟩:=h
       have e:x=(6,x.2.1,v0,p0,p0,x.2.2.2.2.2.1,()):=qw c6 rfl a2 a3 a4 rfl
       rw[e]
       exact .call _ _ a1
      ·rw[Z2 c6] at h
       cases h
theorem YD {deep:Int} {l:ag} {ns:List ab} (h0:0≤deep) (h1:deep+(l.length:Int)≤400) (h:(bl l).head? = some 45) :
  eQ deep (ba l) false ns=(eQ (deep+1) (ba ((bl l).drop 1)) false ns).bind fun z=>aI (Rb z.1.1) z.2.1.1 z.2.1.2.2.1 z.2.1.2.1:=by
 rw[kH,aL (by omega)]
 simp only[Z5,ad_,gK]
 rw[show(⟨#[45]⟩:Z0)=ba [45] from rfl,cX (by omega)]
 simp only[Z1,il (c:=45) (.inl rfl),Z4]
 simp only[h,bv_,al_]
 rw[wr (by omega) (by omega)]
theorem sP {deep:Int} {l:ag} {ns:List ab} (h0:0≤deep) (h1:deep+(l.length:Int)≤400) (h:(bl l).head? ≠ some 45) :
  eQ deep (ba l) false ns=fx deep (ba (bl l)) false ns:=by
 rw[kH,aL (by omega)]
 simp only[Z5,ad_,gK]
 rw[show(⟨#[45]⟩:Z0)=ba [45] from rfl,cX (by omega)]
 simp only[Z1,il (c:=45) (.inl rfl),Z4]
 simp only[h,ca_,Z5,ad_]
theorem Cj {least deep left:Int} {r:ag} {ns:List ab} (hl:r.length≤400) (h:zK r=true) (ho:d8 r=0∨cz (d8 r) < least):cE least deep left (ba r) false ns=some ((left,()),((ba r,ns,false,()),())):=by
 rw[fz]
 simp only[as_,al_]
 obtain⟨o1,o2⟩:=l7 (bl r)
 rw[ug (by omega),xC o1 o2 (by rw[Ri h]; omega) (fun h=>by rw[dD]; exact qk h),Ri h,Z3 ho]
theorem Zh {least deep left op:Int} {t:ag} {ns:List ab} (h0:1≤op) (h1:op≤11) (ht:IM t=true) (hl:t.length≤390) (hv:least≤cz op) :
  cE least deep left (ba (du op++t)) false ns=(bv (cz op+1) deep (ba t) false ns).bind fun z7=>((aI (5,op,(0,0,(⟨#[]⟩:Z0),()),((0,0,()),false,false,()),((0,0,()),false,false,()),([left,z7.1.1]:(List Int)),()) z7.2.1.1 z7.2.1.2.2.1 z7.2.1.2.1).bind fun z8=>(cE least deep z8.1.1 z8.2.1.1 z8.2.1.2.2.1 z8.2.1.2.1)):=by
 have hs:=Rk h0 h1 t
 have hb:=Ri hs
 have ho:=TF h0 h1 ht
 have hln:=xz op
 have hll:(du op++t).length≤400:=by rw[Z7]; omega
 rw[fz]
 simp only[as_,al_]
 obtain⟨o1,o2⟩:=l7 (bl (du op++t))
 rw[ug (by omega),xC o1 o2 (by rw[hb]; omega) (fun h=>by rw[dD]; exact qk h),dD,hb,ho,Z2 (by omega),ft_ rfl]
theorem YE {deep:Int} {m:ag} {ns:List ab} (hl:m.length≤400):fx deep (ba (40 :: m)) false ns=((bv 1 (gt_ gu_ (deep+1)) (ba m) false ns).bind fun z6=>(if z6.2.1.2.2.1=true then(some ((z6.1.1,()),((z6.2.1.1,z6.2.1.2.1,true,()),()))) else((bn (⟨#[41]⟩:Z0) z6.2.1.1 z6.2.1.2.2.1 z6.2.1.2.1).bind fun z7=>(some ((z6.1.1,()),((z7.2.1.1,z7.2.1.2.1,(!z7.1.1),()),())))))):=by
 have hb:bl (40 :: m)=40 :: m:=au_ (by decide)
 rw[qm (by rw[aa_]; omega),hb,Z2 (by simp),Z2 (by simp),Z3 (by simp)]
 rfl
theorem Ph {r:ag} {ns:List ab} (hl:r.length≤400):bn (⟨#[41]⟩:Z0) (ba (41 :: r)) false ns=some ((true,()),((ba r,ns,false,()),())):=by
 have hb:bl (41 :: r)=41 :: r:=au_ (by decide)
 have hs:sg (41 :: r)=[41]:=by rw[il (c:=41) (.inr (.inr (.inl rfl)))]; rfl
 rw[show(⟨#[41]⟩:Z0)=ba [41] from rfl,cX (by rw[aa_]; omega),hb,hs]
 rfl
theorem Xl {r:ag} {ns:List ab} (hl:r.length≤400):bn (⟨#[44]⟩:Z0) (ba (44 :: r)) false ns=some ((true,()),((ba r,ns,false,()),())):=by
 have hb:bl (44 :: r)=44 :: r:=au_ (by decide)
 have hs:sg (44 :: r)=[44]:=by rw[il (c:=44) (.inr (.inr (.inr (.inl rfl))))]; rfl
 rw[show(⟨#[44]⟩:Z0)=ba [44] from rfl,cX (by rw[aa_]; omega),hb,hs]
 rfl
theorem VP {r:ag} {ns:List ab} (hl:r.length≤400):bn (⟨#[44]⟩:Z0) (ba (41 :: r)) false ns=some ((false,()),((ba (41 :: r),ns,false,()),())):=by
 have hb:bl (41 :: r)=41 :: r:=au_ (by decide)
 have hs : ¬sg (41 :: r)=[44]:=by rw[il (c:=44) (.inr (.inr (.inr (.inl rfl))))]; simp
 rw[show(⟨#[44]⟩:Z0)=ba [44] from rfl,cX (by rw[aa_]; omega),hb,Z2 hs]
 simp[hs]
theorem Rm : ∀(x r:ag),r.head? ≠ some 34→qt (qT x++34 :: r)=some (x,r)
 | [],r,h=>by
  cases r with
  | nil=>exact FY
  | cons d r =>
   have hd:d≠34:=fun e=>h (by rw[e]; rfl)
   exact Cd hd
 | c :: x,r,h=>by
  unfold qT
  by_cases hc:c=34
  ·subst hc
   rw[Z3 rfl]
   show qt (34 :: 34 :: (qT x++34 :: r))=_
   rw[FZ,Rm x r h]
   rfl
  ·rw[Z2 hc]
   show qt (c :: (qT x++34 :: r))=_
   rw[yU hc,Rm x r h]
   rfl
theorem TJ {deep:Int} {x r:ag} {ns:List ab} (hl:(qT x).length+r.length≤390) (hr:r.head? ≠ some 34):fx deep (ba (34 :: (qT x++34 :: r))) false ns=aI (nC (2,0,ba x,())) (ba r) false ns:=by
 have hb:bl (34 :: (qT x++34 :: r))=34 :: (qT x++34 :: r):=au_ (by decide)
 have hll:(qT x++34 :: r).length≤400:=by simp only[Z7,aa_]; omega
 rw[qm (by rw[aa_]; omega),hb,Z3 (by simp),yV (by omega),Rm x r hr]
 show bS (2,0,ba ([]++x),()) (ba r) false ns=_
 rw[jC]
 rfl
theorem Bv {deep:Int} {w r:ag} {ns:List ab} (hl:w.length+r.length≤390) (hw:w.all aP=true) (hne:w≠[]) (hr:r.takeWhile aP=[]∧r.dropWhile aP=r):fx deep (ba (w++r)) false ns=e8 deep w r false ns:=by
 obtain⟨c,t,rfl⟩ : ∃ c t,w=c :: t:=by
  cases w with
  | nil=>exact ay_ rfl hne
  | cons c t=>exact⟨c,t,rfl⟩
 have hc:aP c=true:=by simp only[bp_,Z8] at hw; exact hw.1
 have hn:c≠32∧c≠34∧c≠35∧c≠40∧Bn c=false:=pw (p:=fun c=>aP c=true→c≠32∧c≠34∧c≠35∧c≠40∧Bn c=false) (by decide +kernel) c hc
 have hb:bl (c :: t++r)=c :: t++r:=au_ (by rw[hn.2.2.2.2]; decide)
 obtain⟨h1,h2⟩:=vp hw hr
 rw[qm (by rw[Z7]; omega),hb,h1,h2,Z2 (by simp[hn.2.1]),Z2 (by simp[hn.2.2.1]),Z2 (by simp[hn.2.2.2.1])]
theorem Pi (u:Nat):(am_ u).all aP=true:=TG (Ca (qg u))
theorem Ck {v:ae} (h:au v=true) (h0:v.1≠0) (h1:v.1=1→0≤v.2.1) (h2:v.1≠2):(∃ n:Fin 6,v=vE (n.val:Int)∧1≤n.val)∨((lb (cH v)).all aP=true∧lb (cH v)≠[]∧(v.1=1∨v.1=3)):=by
 rcases qS h with e | ⟨n,e,_⟩ | ⟨t,e⟩ | ⟨b,e⟩ | ⟨n,e,k⟩
 ·rw[e] at h0
  exact ay_ rfl h0
 ·right
  subst e
  have hn:0≤n:=h1 rfl
  obtain⟨u,rfl⟩:=Int.eq_ofNat_of_zero_le hn
  have e:lb (cH (vN ((u:Nat):Int)))=am_ u:=by
   show lb (dr ((u:Nat):Int))=_
   rw[l6,dC]
  rw[e]
  exact⟨Pi u,xx.1,.inl rfl⟩
 ·rw[e] at h2
  exact ay_ rfl h2
 ·right
  subst e
  cases b
  ·exact⟨by decide +kernel,by decide +kernel,.inr rfl⟩
  ·exact⟨by decide +kernel,by decide +kernel,.inr rfl⟩
 ·exact .inl ⟨n,e,k⟩
theorem VQ : ∀(n:Fin 6),1≤n.val → ∀ r:ag,pB.find? (gX (dz (n.val:Int)++r))=some (n.val:Int):=by
 intro n hn r
 have e1:dz 1=[68,73,86,33]∧dz 2=[84,89,80,69,33]∧dz 3=[82,69,70,33]:=by decide +kernel
 have hd : ∀ n m:Fin 6,1≤n.val→1≤m.val→m.val < n.val → ∃ i:Fin 10,(dz (n.val:Int))[i.val]? ≠ (dz (m.val:Int))[i.val]? ∧ i.val < (dz (n.val:Int)).length∧i.val < (dz (m.val:Int)).length:=by decide +kernel
 have no : ∀ m:Fin 6,1≤m.val→m.val < n.val→gX (dz (n.val:Int)++r) (m.val:Int)=false:=by
  intro m h1 h2
  obtain⟨i,h3,h4,h5⟩:=hd n m hn h1 h2
  rw[bt_]
  intro hp
  unfold gX at hp
  obtain⟨t,ht⟩:=dg_.1 hp
  have:=congrArg (fun l:ag=>l[i.val]?) ht
  simp only[cg_ h5,cg_ h4] at this
  exact h3 this.symm
 have yes:gX (dz (n.val:Int)++r) (n.val:Int)=true:=by
  unfold gX
  rw[dg_]
  exact⟨r,rfl⟩
 have hc:n.val=1∨n.val=2∨n.val=3∨n.val=4∨n.val=5:=by omega
 have nm : ∀ m:Nat,(h:m < 6)→1≤m→m < n.val→gX (dz (n.val:Int)++r) (m:Int)=false:=fun m h h1 h2=>no ⟨m,h⟩ h1 h2
 rcases hc with h | h | h | h | h
 ·rw[h] at nm yes ⊢
  simp only[pB,cy_]
  rw[show gX (dz ((1:Nat):Int)++r) 1=true from yes]
  rfl
 ·rw[h] at nm yes ⊢
  simp only[pB,cy_]
  rw[show gX (dz ((2:Nat):Int)++r) 1=false from nm 1 (by decide) (by decide) (by decide),show gX (dz ((2:Nat):Int)++r) 2=true from yes]
  rfl
 ·rw[h] at nm yes ⊢
  simp only[pB,cy_]
  rw[show gX (dz ((3:Nat):Int)++r) 1=false from nm 1 (by decide) (by decide) (by decide),show gX (dz ((3:Nat):Int)++r) 2=false from nm 2 (by decide) (by decide) (by decide),show gX (dz ((3:Nat):Int)++r) 3=true from yes]
  rfl
 ·rw[h] at nm yes ⊢
  simp only[pB,cy_]
  rw[show gX (dz ((4:Nat):Int)++r) 1=false from nm 1 (by decide) (by decide) (by decide),show gX (dz ((4:Nat):Int)++r) 2=false from nm 2 (by decide) (by decide) (by decide),show gX (dz ((4:Nat):Int)++r) 3=false from nm 3 (by decide) (by decide) (by decide),show gX (dz ((4:Nat):Int)++r) 4=true from yes]
  rfl
 ·rw[h] at nm yes ⊢
  simp only[pB,cy_]
  rw[show gX (dz ((5:Nat):Int)++r) 1=false from nm 1 (by decide) (by decide) (by decide),show gX (dz ((5:Nat):Int)++r) 2=false from nm 2 (by decide) (by decide) (by decide),show gX (dz ((5:Nat):Int)++r) 3=false from nm 3 (by decide) (by decide) (by decide),
   show gX (dz ((5:Nat):Int)++r) 4=false from nm 4 (by decide) (by decide) (by decide),show gX (dz ((5:Nat):Int)++r) 5=true from yes]
  rfl
theorem VR {deep:Int} {n:Fin 6} (hn:1≤n.val) {r:ag} {ns:List ab} (hl:r.length≤390):fx deep (ba (lb (df (n.val:Int))++r)) false ns=aI (nC (vE (n.val:Int))) (ba r) false ns:=by
 have f : ∀ n:Fin 6,1≤n.val→df (n.val:Int)=ba (35 :: dz (n.val:Int))∧(dz (n.val:Int)).length≤10:=by decide +kernel
 obtain⟨f1,f2⟩:=f n hn
 rw[f1,dC,ck_]
 have hb:bl (35 :: (dz (n.val:Int)++r))=35 :: (dz (n.val:Int)++r):=au_ (by decide)
 have hll:(dz (n.val:Int)++r).length≤400:=by rw[Z7]; omega
 rw[qm (by rw[aa_]; omega),hb,Z2 (by simp),Z3 (by simp),Ha (by omega),VQ n hn r]
 simp only
 rw[jC,ft_ rfl]
theorem Gd {op:Int} (h0:1≤op) (h1:op≤10):(dK op).all aP=true∧dK op≠[]∧(bk (dK op)).2=false∧(cO (dK op)).2=false∧l8.find? (fun k=>decide (dK k=dK op))=some op:=by
 have : ∀ k:Fin 11,1≤k.val→(dK (k.val:Int)).all aP=true∧dK (k.val:Int)≠[]∧(bk (dK (k.val:Int))).2=false∧(cO (dK (k.val:Int))).2=false∧l8.find? (fun j=>decide (dK j=dK (k.val:Int)))=some (k.val:Int):=by decide +kernel
 have h:=this ⟨op.toNat,by omega⟩ (by simp only; omega)
 simpa only[cd_ (show 0≤op by omega)] using h
theorem Cl {op k:Int} (h:i7 op k=true):1≤op∧op≤10∧1≤k∧k≤10:=by
 unfold i7 at h
 split at h
 ·simp only[cx_,Z9] at h
  omega
 ·split at h
  ·rename_i h1
   have:=aH.1 h1
   have:=aH.1 h
   omega
  ·split at h
   ·rename_i h1
    have:=aH.1 h1
    simp only[Z9] at h
    omega
   ·cases h
section
variable {f:List ab} {n:Nat} {k L:Int}
theorem Cm {v:ae} (h:b8 f k=nC v):bO f (n+1) k L=if v.1=2 then 34 :: (qT (lb v.2.2.1)++[34]) else lb (cH v):=by
 conv=>lhs; unfold bO
 rw[h]
 rfl
theorem zb {p:aM} (h:b8 f k=nP p):bO f (n+1) k L=fj p:=by
 conv=>lhs; unfold bO
 rw[h]
 rfl
theorem Eb {p q:aM} (h:b8 f k=nA p q):bO f (n+1) k L=fj p++58 :: fj q:=by
 conv=>lhs; unfold bO
 rw[h]
 rfl
theorem Cn {a:Int} (h:b8 f k=(4,0,v0,p0,p0,[a],())):bO f (n+1) k L=45 :: bO f n a 5:=by
 conv=>lhs; unfold bO
 rw[h]
 rfl
def vq (f:List ab) (n:Nat) (op a b:Int):ag:=bO f n a (cz op)++(du op++bO f n b (cz op+1))
theorem xD {op a b:Int} (h:b8 f k=(5,op,v0,p0,p0,[a,b],())):bO f (n+1) k L=if cz op < L then 40 :: (vq f n op a b++[41]) else vq f n op a b:=by
 conv=>lhs; unfold bO
 rw[h]
 rfl
theorem zd {op:Int} {ks:List Int} (h:b8 f k=(6,op,v0,p0,p0,ks,())):bO f (n+1) k L=dK op++40 :: (cj (ks.map fun k=>bO f n k 1)++[41]):=by
 conv=>lhs; unfold bO
 rw[h]
 rfl
end
theorem Ge {w:ag} (hw:w.all aP=true) (hne:w≠[]):IM w=true:=by
 cases w with
 | nil=>exact ay_ rfl hne
 | cons c t =>
  simp only[bp_,Z8] at hw
  show TE c=true
  unfold TE
  rw[hw.1]
  rfl
theorem J6 {p:aM} (h:aA p.1=true):fj p≠[]:=by
 obtain⟨_,c,t,e,_⟩:=nT h
 rw[e]
 simp
theorem dZ {p q:aM} (h:cy (p.1,q.1,())=true):aA p.1=true∧aA q.1=true:=by
 unfold cy at h
 simp only[Z8] at h
 exact⟨h.1.1.1,h.1.1.2⟩
theorem J7 {f:List ab} : ∀(n:Nat) (k s:Int) (h:Nat),dt f n k=some (s,h) → ∀ L,IM (bO f n k L)=true
 | 0,k,s,h,e,L=>by cases e
 | n+1,k,s,h,e,L=>by
  obtain⟨h0,x,hx,hn,hok,hfw⟩:=qv e
  cases sA hok with
  | con v hv v0' v1 =>
   rw[Cm hn]
   by_cases h2:v.1=2
   ·rw[Z3 h2]
    rfl
   ·rw[Z2 h2]
    rcases Ck hv v0' v1 h2 with⟨m,rfl,hm⟩ | ⟨h3,h4,_⟩
    ·have : ∀ m:Fin 6,1≤m.val→IM (lb (cH (vE (m.val:Int))))=true:=by decide +kernel
     exact this m hm
    ·exact Ge h3 h4
  | cell p hp =>
   rw[zb hn]
   exact Ge (nT hp).1 (J6 hp)
  | area p q hp =>
   rw[Eb hn]
   exact qu (Ge (nT (dZ hp).1).1 (J6 (dZ hp).1)) _
  | neg a =>
   rw[Cn hn]
   rfl
  | bin op a b h1 h2 =>
   rw[xD hn]
   split
   ·rfl
   ·obtain⟨⟨h',hc⟩,_⟩:=hfw
    exact qu (J7 n a s h' hc _) _
  | call op ks ha =>
   rw[zd hn]
   obtain⟨g1,g2,_⟩:=Cl ha
   obtain⟨f1,f2,_⟩:=Gd g1 g2
   exact qu (Ge f1 f2) _
theorem Zi {m:ag} (h:m.head? ≠ some 32):bl m=m:=by
 cases m with
 | nil=>rfl
 | cons c t =>
  refine au_ ?_
  unfold Bn
  rw[Z9]
  exact fun e=>h (by rw[e]; rfl)
theorem TK {f:List ab} : ∀(n:Nat) (k s:Int) (h:Nat),dt f n k=some (s,h)→eK f k=false → ∀ L r,zK r=true→((bO f n k L++r).dropWhile aP).head? ≠ some 58∧((bO f n k L++r).dropWhile aP).head? ≠ some 32
 | 0,k,s,h,e,_,L,r,hr=>by cases e
 | n+1,k,s,h,e,har,L,r,hr=>by
  obtain⟨h0,x,hx,hn,hok,hfw⟩:=qv e
  rw[Bu hn] at har
  have hst:=Ww hr
  cases sA hok with
  | con v hv v0' v1 =>
   rw[Cm hn]
   by_cases h2:v.1=2
   ·rw[Z3 h2,ck_,au_ (by decide)]
    exact⟨by simp,by simp⟩
   ·rw[Z2 h2]
    rcases Ck hv v0' v1 h2 with⟨m,rfl,hm⟩ | ⟨h3,h4,_⟩
    ·have : ∀ m:Fin 6,1≤m.val→lb (cH (vE (m.val:Int)))=35 :: dz (m.val:Int):=by decide +kernel
     rw[this m hm,ck_,au_ (by decide)]
     exact⟨by simp,by simp⟩
    ·rw[(D9 h3 hr).2]
     exact⟨hst.2.1,hst.2.2⟩
  | cell p hp =>
   rw[zb hn,(D9 (nT hp).1 hr).2]
   exact⟨hst.2.1,hst.2.2⟩
  | area p q hp=>simp at har
  | neg a =>
   rw[Cn hn,ck_,au_ (by decide)]
   exact⟨by simp,by simp⟩
  | bin op a b h1 h2 =>
   rw[xD hn]
   split
   ·rw[ck_,au_ (by decide)]
    exact⟨by simp,by simp⟩
   ·obtain⟨⟨h',hc⟩,ha,_⟩:=hfw
    unfold vq
    rw[ax_,ax_]
    refine TK n a s h' hc ?_ _ _ (Rk h1 h2 _)
    rw[bt_]
    intro hh
    have:=ha hh
    simp at this
  | call op ks ha =>
   rw[zd hn]
   obtain⟨g1,g2,_⟩:=Cl ha
   obtain⟨f1,f2,_⟩:=Gd g1 g2
   rw[ax_,(vp f1 (r:=40 :: (cj (ks.map fun k=>bO f n k 1)++[41])++r) ⟨rfl,rfl⟩).2]
   exact⟨by simp,by simp⟩
def Ec (x:ab) (L:Int):Bool:=decide (x.1=5) && !decide (cz x.2.1 < L)
def ZC (f:List ab) (n:Nat):Prop := ∀(k s:Int) (h:Nat),dt f n k=some (s,h)→eK f k=false → ∀(L:Int) (r:ag) (deep:Int),1≤L→L≤5→zK r=true→Ec (b8 f k) L=false→0≤deep→deep+((bO f n k L++r).length:Int)≤380 →
 eQ deep (ba (bO f n k L++r)) false (f.take s.toNat)=some ((k,()),((ba r,f.take (k.toNat+1),false,()),()))
def YF (f:List ab) (n:Nat):Prop := ∀(k s:Int) (h:Nat),dt f n k=some (s,h)→eK f k=false → ∀(L:Int) (r:ag) (deep least:Int),1≤L→L≤5→zK r=true→(d8 r=0∨cz (d8 r)≤L)→1≤least→least≤L→0≤deep→deep+((bO f n k L++r).length:Int)≤380 →
 bv least deep (ba (bO f n k L++r)) false (f.take s.toNat)=cE least deep k (ba r) false (f.take (k.toNat+1))
theorem Xm {op deep:Int} {m:ag} {ns:List ab} (hl:m.length≤390):gB op deep (ba (40 :: m)) false ns=b7 op deep (ba m) false [] ns:=by
 have hb:bl (40 :: m)=40 :: m:=au_ (by decide)
 have hs:sg (40 :: m)=[40]:=by rw[il (c:=40) (.inr (.inl rfl))]; rfl
 rw[po,Z2 (by decide),show(⟨#[40]⟩:Z0)=ba [40] from rfl,cX (by rw[aa_]; omega),hb,hs]
 simp
section
variable {f:List ab} (hf:f.length≤60)
include hf
theorem Pj {n:Nat} (HB:YF f n) {op deep:Int} (hd0:0≤deep) {r:ag} : ∀(ys pre:List Int) (s0 e:Int),ys≠[]→0≤s0→Gc f n true ys s0 e→pre.length+ys.length≤100→deep+1+((cj (ys.map fun y=>bO f n y 1)++41 :: r).length:Int)≤380 →
  b7 op deep (ba (cj (ys.map fun y=>bO f n y 1)++41 :: r)) false pre (f.take s0.toNat)=aI (6,op,(0,0,(⟨#[]⟩:Z0),()),((0,0,()),false,false,()),((0,0,()),false,false,()),pre++ys,()) (ba r) false (f.take e.toNat)
 | [],_,_,_,h,_,_,_,_=>ay_ rfl h
 | y :: ys,pre,s0,e,_,hs0,hfw,hpl,hlen=>by
  obtain⟨⟨h',hc⟩,_,hfw'⟩:=hfw
  obtain⟨m,rfl⟩ : ∃ m,n=m+1:=by
   cases n with
   | zero=>cases hc
   | succ m=>exact⟨m,rfl⟩
  obtain⟨hy0,x,hx,hn,hok,hkids⟩:=qv hc
  obtain⟨tl,htl,htx⟩ : ∃ tl:ag,(tl=41 :: r∧ys=[]∨tl=44 :: (cj (ys.map fun y=>bO f (m+1) y 1)++41 :: r)∧ys≠[])∧cj ((y :: ys).map fun y=>bO f (m+1) y 1)++41 :: r=bO f (m+1) y 1++tl:=by
   cases ys with
   | nil=>exact⟨_,.inl ⟨rfl,rfl⟩,rfl⟩
   | cons z zs=>exact⟨_,.inr ⟨rfl,by simp⟩,by simp[cj]⟩
  rw[htx] at hlen ⊢
  have hst:zK tl=true∧d8 tl=0:=by
   rcases htl with⟨h,_⟩ | ⟨h,_⟩
   ·exact J5 (.inr (.inl (by rw[h]; rfl)))
   ·exact J5 (.inr (.inr (by rw[h]; rfl)))
  have hhd:=qu (J7 (m+1) y s0 h' hc 1) tl
  have hbl:=Rl hhd
  have htll:(tl.length:Int)≤380:=by
   rw[Z7] at hlen
   omega
  have hrl:(r.length:Int)+1≤380:=by
   rcases htl with⟨h,_⟩ | ⟨h,_⟩
   ·rw[h,aa_] at htll
    omega
   ·rw[h,aa_,Z7,aa_] at htll
    omega
  have ft:((bn (⟨#[44]⟩:Z0) (ba tl) false (f.take (y.toNat+1))).bind fun z3=>(if(!z3.1.1)=true then(if z3.2.1.2.2.1=true then((aI (6,op,(0,0,(⟨#[]⟩:Z0),()),((0,0,()),false,false,()),((0,0,()),false,false,()),pre++[y],()) z3.2.1.1 true z3.2.1.2.1).bind fun z4=>(some ((z4.1.1,()),(z4.2.1,())))) else((bn (⟨#[41]⟩:Z0) z3.2.1.1 z3.2.1.2.2.1 z3.2.1.2.1).bind fun z5=>((aI (6,op,(0,0,(⟨#[]⟩:Z0),()),((0,0,()),false,false,()),((0,0,()),false,false,()),pre++[y],()) z5.2.1.1 (!z5.1.1) z5.2.1.2.1).bind fun z6=>(some ((z6.1.1,()),(z6.2.1,())))))) else(b7 op deep z3.2.1.1 z3.2.1.2.2.1 (pre++[y]) z3.2.1.2.1)))
    = aI (6,op,(0,0,(⟨#[]⟩:Z0),()),((0,0,()),false,false,()),((0,0,()),false,false,()),pre++y :: ys,()) (ba r) false (f.take e.toNat):=by
   rcases htl with⟨h,h2⟩ | ⟨h,h2⟩
   ·subst h2
    have he:y+1=e:=hfw'
    rw[h,VP (by omega)]
    simp only[Z1,as_,al_,Z5,ad_]
    rw[Ph (by omega)]
    simp only[Z1,aj_,gK]
    congr 2
    omega
   ·have ih:=Pj HB (op:=op) hd0 (r:=r) ys (pre++[y]) (y+1) e h2 (by omega) hfw' (by simp only[Z7,aa_,bg_] at hpl ⊢; omega) (by
     rw[Z7,h,aa_] at hlen
     omega)
    have hcl:((cj (ys.map fun y=>bO f (m+1) y 1)++41 :: r).length:Int)≤380:=by
     rw[h,aa_] at htll
     omega
    rw[h,Xl (by omega)]
    simp only[Z1,aj_,Z5,ad_]
    have e1:(y+1).toNat=y.toNat+1:=by omega
    rw[e1] at ih
    rw[ih]
    simp
  rw[je]
  simp only[as_,al_]
  rw[D8 (by omega),hbl]
  by_cases har:eK f y=true
  ·
   rw[Bu hn,Z9] at har
   cases sA hok with
   | con v _ _ _=>simp at har
   | cell p _=>simp at har
   | neg a=>simp at har
   | bin op a b _ _=>simp at har
   | call op ks _=>simp at har
   | area p q hp =>
    obtain⟨r1,r2⟩:=dZ hp
    have hs:s0=y:=hkids
    rw[Eb hn,ax_,ck_]
    obtain⟨w1,w2⟩:=vp (nT r1).1 (r:=58 :: (fj q++tl)) ⟨rfl,rfl⟩
    obtain⟨w3,w4⟩:=D9 (nT r2).1 hst.1
    have hb2:bl (58 :: (fj q++tl))=58 :: (fj q++tl):=au_ (by decide)
    have har:jR (fj p++58 :: (fj q++tl))=fj q++tl:=by
     unfold jR
     rw[w2,hb2]
     exact Rl (qu (Ge (nT r2).1 (J6 r2)) tl)
    have hab:zI (fj p++58 :: (fj q++tl))=true:=by
     unfold zI
     rw[w1,w2,oE r1,hb2]
     rfl
    rw[Z3 hab,har,w1,w3,w4,oE r1,oE r2]
    simp only[Z1,al_,aj_,Bool.or_false]
    rw[hs,Bt hf hx]
    simp only[Z1]
    rw[bJ (by simp only[Z4]; simp only[aa_] at hpl; omega),cd_ hy0]
    exact ft
  ·
   have har':eK f y=false:=by simpa using har
   obtain⟨c1,c2⟩:=TK (m+1) y s0 h' hc har' 1 tl hst.1
   have hab : ¬zI (bO f (m+1) y 1++tl)=true:=by
    unfold zI
    rw[Zi c2]
    simp[c1]
   rw[Z2 hab]
   simp only[Z1,Z5,ad_]
   rw[wr (by omega) (by omega),HB y s0 h' hc har' 1 tl (deep+1) 1 (by decide) (by decide) hst.1 (.inl hst.2) (by decide) (by decide) (by omega) (by omega),Cj (by omega) hst.1 (.inl hst.2)]
   simp only[Z1]
   rw[bJ (by simp only[Z4]; simp only[aa_] at hpl; omega)]
   exact ft
theorem Pk {n:Nat} (HB:YF f n) {k s op a b:Int} (hk0:0≤k) (hx:f[k.toNat]? = some (5,op,v0,p0,p0,[a,b],())) (h1:1≤op) (h2:op≤11) (hfw:Gc f n false [a,b] s k) {r:ag} {deep least:Int} (hr:zK r=true) (ho:d8 r=0∨cz (d8 r)≤cz op) (hl1:1≤least) (hl2:least≤cz op) (hd0:0≤deep) (hd:deep+((vq f n op a b++r).length:Int)≤380) :
  bv least deep (ba (vq f n op a b++r)) false (f.take s.toNat)=cE least deep k (ba r) false (f.take (k.toNat+1)):=by
 obtain⟨⟨ha,hca⟩,haa,⟨hb,hcb⟩,hab,hbk⟩:=hfw
 have hbk:b+1=k:=hbk
 have naa:eK f a=false:=by
  rw[bt_]
  intro h
  have:=haa h
  cases this
 have nab:eK f b=false:=by
  rw[bt_]
  intro h
  have:=hab h
  cases this
 obtain⟨v1,v2⟩:=Ea op
 have hhd:=J7 n b (a+1) hb hcb (cz op+1)
 have hhd2:=qu hhd r
 unfold vq at hd ⊢
 rw[ax_,ax_] at hd ⊢
 have ha0:0≤a:=by
  have:=fJ f n a s ha hca
  omega
 have hb0:0≤b:=by
  have:=fJ f n b (a+1) hb hcb
  omega
 rw[Z7,Z7] at hd
 rw[HB a s ha hca naa (cz op) _ deep least v1 (by omega) (Rk h1 h2 _) (.inr (by rw[TF h1 h2 hhd2]; omega)) hl1 hl2 hd0 (by rw[Z7,Z7]; omega),Zh h1 h2 hhd2 (by omega) hl2]
 have ea:(a+1).toNat=a.toNat+1:=by omega
 have:=HB b (a+1) hb hcb nab (cz op+1) r deep (cz op+1) (by omega) (by omega) hr (ho.imp id fun h=>by omega) (by omega) (by omega) hd0 (by omega)
 rw[ea] at this
 rw[this,Cj (by rw[Z7] at hd; omega) hr (ho.imp id fun h=>by omega)]
 simp only[Z1]
 have eb:b.toNat+1=k.toNat:=by omega
 have hp:aI (5,op,(0,0,(⟨#[]⟩:Z0),()),((0,0,()),false,false,()),((0,0,()),false,false,()),[a,b],()) (ba r) false (f.take k.toNat)=_:=Bt hf hx r
 rw[eb,hp]
 simp only[Z1]
 rw[cd_ hk0]
theorem TL : ∀ n:Nat,ZC f n∧YF f n
 | 0=>⟨(fun k s h e=>by cases e),(fun k s h e=>by cases e)⟩
 | n+1=>by
  obtain⟨IU,IB⟩:=TL n
  have U:ZC f (n+1):=by
   intro k s h e har L r deep hL1 hL2 hr hbin hd0 hd
   obtain⟨hk0,x,hx,hn,hok,hfw⟩:=qv e
   have hhd:=qu (J7 (n+1) k s h e L) r
   have hbl:=Rl hhd
   rw[Bu hn] at har
   rw[hn] at hbin
   have ft:s=k→aI x (ba r) false (f.take s.toNat)=some ((k,()),((ba r,f.take (k.toNat+1),false,()),())):=by
    rintro rfl
    rw[Bt hf hx,cd_ hk0]
   cases sA hok with
   | con v hv v0' v1 =>
    have hs:s=k:=hfw
    rw[Cm hn] at hd hbl ⊢
    by_cases h2:v.1=2
    ·rw[Z3 h2] at hd hbl ⊢
     have hve:v=(2,0,ba (lb v.2.2.1),()):=by
      rw[fm]
      exact es_ h2 (es_ (O8 hv h2) rfl)
     rw[ck_,ax_,bi_] at hd hbl ⊢
     simp only[aa_,Z7] at hd
     rw[sP hd0 (by simp only[aa_,Z7]; omega) (by rw[hbl]; simp),hbl,TJ (by omega) (Ww hr).1,←hve]
     exact ft hs
    ·rw[Z2 h2] at hd hbl ⊢
     rw[Z7] at hd
     rcases Ck hv v0' v1 h2 with⟨m,rfl,hm⟩ | ⟨h3,h4,h5⟩
     ·have e1:cH (vE (m.val:Int))=df (m.val:Int):=rfl
      rw[e1] at hd hbl ⊢
      have h45:(lb (df (m.val:Int))++r).head? ≠ some 45:=by
       have : ∀ m:Fin 6,1≤m.val→lb (df (m.val:Int))=35 :: dz (m.val:Int):=by decide +kernel
       rw[this m hm]
       simp
      rw[sP hd0 (by rw[Z7]; omega) (by rw[hbl]; exact h45),hbl,VR hm (by omega)]
      exact ft hs
     ·have h45:(lb (cH v)++r).head? ≠ some 45:=by
       cases hw:lb (cH v) with
       | nil=>exact ay_ hw h4
       | cons c t =>
        rw[hw] at h3
        simp only[bp_,Z8] at h3
        have:aP c=true→c≠45:=pw (p:=fun c=>aP c=true→c≠45) (by decide +kernel) c
        simpa using this h3.1
      rw[sP hd0 (by rw[Z7]; omega) (by rw[hbl]; exact h45),hbl,Bv (by omega) h3 h4 (Rj hr)]
      unfold e8
      rw[yQ hv,Z3 ⟨rfl,h5⟩,jC]
      exact ft hs
   | cell p hp =>
    have hs:s=k:=hfw
    rw[zb hn] at hd hbl ⊢
    rw[Z7] at hd
    obtain⟨w1,c,t,ec,hc⟩:=nT hp
    have h45:(fj p++r).head? ≠ some 45:=by
     rw[ec]
     simpa using (Wx c hc).2.2.1
    rw[sP hd0 (by rw[Z7]; omega) (by rw[hbl]; exact h45),hbl,Bv (by omega) w1 (J6 hp) (Rj hr)]
    unfold e8
    rw[Z2 (by rw[VO hp]; exact fun h=>by cases h.1),oE hp,Z3 rfl]
    exact ft hs
   | area p q hp=>simp at har
   | neg a =>
    obtain⟨⟨ha,hca⟩,haa,hak⟩:=hfw
    have hak:a+1=k:=hak
    have naa:eK f a=false:=by
     rw[bt_]
     intro h
     have:=haa h
     simp at this
    have ha0:0≤a:=by
     have:=fJ f n a s ha hca
     omega
    rw[Cn hn] at hd hbl ⊢
    rw[ck_] at hd hbl ⊢
    rw[aa_] at hd
    have nb:Ec (b8 f a) 5=false:=by
     unfold Ec
     have:=Ea (b8 f a).2.1
     rw[ba_ (show cz (b8 f a).2.1 < 5 by omega)]
     simp
    rw[YD hd0 (by rw[aa_]; omega) (by rw[hbl]; rfl),hbl]
    simp only[bh_,ce_]
    rw[IU a s ha hca naa 5 r (deep+1) (by decide) (by decide) hr nb (by omega) (by omega)]
    simp only[Z1]
    have ea:a.toNat+1=k.toNat:=by omega
    rw[ea]
    refine(Bt hf hx r).trans ?_
    rw[cd_ hk0]
   | bin op a b h1 h2 =>
    have hlt:cz op < L:=by
     unfold Ec at hbin
     simpa using hbin
    rw[xD hn,Z3 hlt] at hd hbl ⊢
    rw[ck_,ax_,bi_] at hd hbl ⊢
    rw[aa_] at hd
    have hll:=hd
    rw[Z7,aa_] at hll
    obtain⟨v1,v2⟩:=Ea op
    have h41:=J5 (r:=41 :: r) (.inr (.inl rfl))
    rw[sP hd0 (by rw[aa_]; omega) (by rw[hbl]; simp),hbl,YE (by omega),wr (by omega) (by omega),Pk hf IB hk0 hx h1 h2 hfw h41.1 (.inl h41.2) (by decide) v1 (by omega) (by omega),Cj (by rw[aa_]; omega) h41.1 (.inl h41.2)]
    simp only[Z1,Z5,ad_]
    rw[Ph (by omega)]
    rfl
   | call op ks ha =>
    obtain⟨g1,g2,g3,g4⟩:=Cl ha
    obtain⟨f1,f2,f3,f4,f5⟩:=Gd g1 g2
    rw[zd hn] at hd hbl ⊢
    rw[ax_,ck_,ax_,bi_] at hd hbl ⊢
    have h45:(dK op++40 :: (cj (ks.map fun k=>bO f n k 1)++41 :: r)).head? ≠ some 45:=by
     cases hw:dK op with
     | nil=>exact ay_ hw f2
     | cons c t =>
      rw[hw] at f1
      simp only[bp_,Z8] at f1
      have:aP c=true→c≠45:=pw (p:=fun c=>aP c=true→c≠45) (by decide +kernel) c
      simpa using this f1.1
    have hll:=hd
    rw[Z7,aa_] at hll
    have hfl:1≤(dK op).length:=eb_.2 f2
    rw[sP hd0 (by omega) (by rw[hbl]; exact h45),hbl,Bv (by rw[aa_]; omega) f1 f2 ⟨rfl,rfl⟩]
    unfold e8
    rw[Z2 (by rw[f3]; exact fun h=>by cases h.1),Z2 (by rw[f4]; decide),f5]
    simp only
    have hs0:0≤s:=(fJ f (n+1) k s h e).1
    have hkn:ks≠[]:=by
     rintro rfl
     simp at g3
    have hfw':Gc f n true ks s k:=by
     have:decide (((6,op,v0,p0,p0,ks,()):ab).1=6)=true:=rfl
     rw[this] at hfw
     exact hfw
    rw[Xm (by omega),Pj hf IB hd0 ks [] s k hkn hs0 hfw' (by simp only[bg_]; omega) (by omega),List.nil_append]
    refine(Bt hf hx r).trans ?_
    rw[cd_ hk0]
  refine⟨U,?_⟩
  intro k s h e har L r deep least hL1 hL2 hr ho hl1 hl2 hd0 hd
  by_cases hb:Ec (b8 f k) L=true
  ·obtain⟨hk0,x,hx,hn,hok,hfw⟩:=qv e
   rw[hn] at hb
   unfold Ec at hb
   rw[Z8,Z9,cz_,decide_eq_false_iff_not] at hb
   cases sA hok with
   | con v _ _ _=>simp at hb
   | cell p _=>simp at hb
   | area p q _=>simp at hb
   | neg a=>simp at hb
   | call op ks _=>simp at hb
   | bin op a b h1 h2 =>
    have hge : ¬cz op < L:=hb.2
    rw[xD hn,Z2 hge] at hd ⊢
    exact Pk hf IB hk0 hx h1 h2 hfw hr (ho.imp id fun h=>by omega) hl1 (by omega) hd0 hd
  ·have hb':Ec (b8 f k) L=false:=by simpa using hb
   rw[m7,U k s h e har L r deep hL1 hL2 hr hb' hd0 hd]
   rfl
end
def k7 (c:UInt8):Bool:=decide (32≤c.toNat) && decide (c.toNat≤126)
theorem ze {l:ag}:plain (ba l)=l.all k7:=by
 unfold plain
 rw[S4,List.all_map]
 congr 1
 funext c
 simp only[Function.comp,rp,k7]
 rw[ci_]
 simp only[Z9,Z8]
 omega
theorem Co {w:ag} (h:w.all aP=true):w.all k7=true:=by
 rw[cc_] at h ⊢
 intro c hc
 exact pw (p:=fun c=>aP c=true→k7 c=true) (by decide +kernel) c (h c hc)
theorem Rn : ∀ {l:ag},l.all k7=true→(qT l).all k7=true
 | [],_=>rfl
 | c :: l,h=>by
  simp only[bp_,Z8] at h
  unfold qT
  split
  ·simp only[bp_,Rn h.2,el_]
   decide
  ·simp only[bp_,h.1,Rn h.2,el_]
theorem IP : ∀ {l:List ag},(∀ x∈l,x.all k7=true)→(cj l).all k7=true
 | [],_=>rfl
 | [x],h=>h x (by simp)
 | x :: y :: l,h=>by
  have ih:=IP (l:=y :: l) fun z hz=>h z (af_ _ hz)
  show(x++44 :: cj (y :: l)).all k7=true
  rw[cf_,bp_,h x (by simp),ih]
  decide
theorem YG {op:Int} (h0:1≤op) (h1:op≤11):(du op).all k7=true:=by
 have : ∀ k:Fin 12,(du (k.val:Int)).all k7=true:=by decide +kernel
 have h:=this ⟨op.toNat,by omega⟩
 simpa only[cd_ (show 0≤op by omega)] using h
theorem xE {f:List ab} {n:Nat} {call:Bool} : ∀ {l:List Int} {s e:Int},Gc f n call l s e → ∀ y∈l,∃ s h,dt f n y=some (s,h)
 | [],_,_,_,y,hy=>by cases hy
 | z :: l,s,e,h,y,hy=>by
  rcases List.mem_cons.1 hy with rfl | hy
  ·obtain⟨h',hc⟩:=h.1
   exact⟨s,h',hc⟩
  ·exact xE h.2.2 y hy
theorem Cp {f:List ab} : ∀(n:Nat) (k s:Int) (h:Nat),dt f n k=some (s,h) → ∀ L,(bO f n k L).all k7=true
 | 0,k,s,h,e,L=>by cases e
 | n+1,k,s,h,e,L=>by
  obtain⟨h0,x,hx,hn,hok,hfw⟩:=qv e
  cases sA hok with
  | con v hv v0' v1 =>
   rw[Cm hn]
   by_cases h2:v.1=2
   ·rw[Z3 h2,bp_,cf_,Rn]
    ·decide
    ·have hp:plain v.2.2.1=true:=by
      unfold au at hv
      rw[Z3 h2] at hv
      simp only[Z8] at hv
      exact hv.2.1
     rw[←fm v.2.2.1,ze] at hp
     exact hp
   ·rw[Z2 h2]
    rcases Ck hv v0' v1 h2 with⟨m,rfl,hm⟩ | ⟨h3,h4,_⟩
    ·have : ∀ m:Fin 6,1≤m.val→(lb (cH (vE (m.val:Int)))).all k7=true:=by decide +kernel
     exact this m hm
    ·exact Co h3
  | cell p hp =>
   rw[zb hn]
   exact Co (nT hp).1
  | area p q hp =>
   rw[Eb hn,cf_,bp_,Co (nT (dZ hp).1).1,Co (nT (dZ hp).2).1]
   decide
  | neg a =>
   obtain⟨s',h',hc⟩:=xE hfw a (by simp)
   rw[Cn hn,bp_,Cp n a s' h' hc]
   decide
  | bin op a b h1 h2 =>
   obtain⟨s1,h1',c1⟩:=xE hfw a (by simp)
   obtain⟨s2,h2',c2⟩:=xE hfw b (by simp)
   have hb:(vq f n op a b).all k7=true:=by
    unfold vq
    rw[cf_,cf_,Cp n a s1 h1' c1,Cp n b s2 h2' c2,YG h1 h2]
    rfl
   rw[xD hn]
   split
   ·rw[bp_,cf_,hb]
    decide
   ·exact hb
  | call op ks ha =>
   obtain⟨g1,g2,_⟩:=Cl ha
   obtain⟨f1,_⟩:=Gd g1 g2
   rw[zd hn,cf_,bp_,cf_,Co f1,IP]
   ·decide
   ·intro z hz
    obtain⟨y,hy,rfl⟩:=List.mem_map.1 hz
    obtain⟨s',h',hc⟩:=xE hfw y hy
    exact Cp n y s' h' hc 1
def fT (f:List ab):ag:=bO f f.length ((f.length:Int) - 1) 1
theorem Pl {f:List ab} (h:dJ f=true):f.length≤60∧1≤f.length∧eK f ((f.length:Int) - 1)=false ∧ ∃ d,dt f f.length ((f.length:Int) - 1)=some (0,d):=by
 unfold dJ pv at h
 rw[Z8] at h
 obtain⟨h1,h2⟩:=h
 have h1:=aH.1 h1
 split at h2
 ·rename_i s d hc
  simp only[Z8,Z9,cz_] at h2
  rw[h2.1] at hc
  exact⟨by omega,by omega,h2.2.1,d,hc⟩
 ·cases h2
theorem TM {f:List ab} (h:dJ f=true) (hl:(fT f).length≤200):j7 (ba (fT f))=some ((f,true,()),()):=by
 obtain⟨h60,h1,har,d,hc⟩:=Pl h
 have hp:plain (ba (fT f))=true:=by
  rw[ze]
  exact Cp _ _ _ _ hc 1
 have hst:=J5 (r:=[]) (.inl rfl)
 have hB:=(TL h60 f.length).2 _ 0 d hc har 1 [] 0 1 (by decide) (by decide) hst.1 (.inl hst.2) (by decide) (by decide) (by decide) (by rw[bz_]; show(0:Int)+((fT f).length:Int)≤380; omega)
 rw[bz_] at hB
 have hB:bv 1 0 (ba (fT f)) false []=_:=hB
 rw[Cj (by simp) hst.1 (.inl hst.2)] at hB
 have ek:((f.length:Int) - 1).toNat+1=f.length:=by omega
 rw[ek,List.take_length] at hB
 have hs:=iu h
 have hn : ∀ x∈f,bR x=true:=by
  intro x hx
  obtain⟨i,hi⟩:=gj_ hx
  exact(hs i x hi).1
 have hsm:sm f=true:=by
  unfold sm
  rw[cc_]
  exact fun x hx=>IE (hn x hx)
 rw[uY,sr (by rw[az]; omega),hp]
 have h200:decide (((ba (fT f)).size:Int)≤200)=true:=ba_ (by rw[az]; omega)
 rw[h200]
 simp only[Z1,Bool.and_self,aj_,Z5,ad_]
 rw[hB]
 simp only[Z1]
 rw[mP]
 simp only[Z1,Z5,ad_]
 have e0:(Z6 (ba (bl [])) == Z6 (⟨#[]⟩:Z0))=true:=by
  rw[show(⟨#[]⟩:Z0)=ba [] from rfl,dn]
  rfl
 rw[e0]
 simp only[aj_,Z5,ad_]
 rw[kY (by omega) (Hc hsm) (Hd hsm),h]
 rfl
end Go.Proofs.YtipnjpfdlolhmaaGreatDoor.Abs
