/- Plain laws of versions: all that one comes from, the greatest that two come from. -/
import Derived.Test.YtfffplonjaigkaaGreatDoorZM6
set_option linter.unusedVariables false
set_option linter.unusedSimpArgs false
set_option linter.unusedSectionVars false
open Bool renaming and_eq_true→M7,eq_iff_iff→R8,or_eq_true→V9,true_and→P4
open ByteArray renaming toList→M1
open Go.IntKind renaming i64→ar_,wrap→aq_
open Int renaming toNat_natCast→V5,toNat→P9
open List renaming all_cons→U1,any_eq_true→Y2,getD_eq_getElem?_getD→P7,getD→R0,getElem?_eq_none_iff→an_,getElem?_eq_some_iff→N7,getElem?_of_mem→ai_,length_append→M6,length_cons→N3,length_map→S8,length_singleton→M3,mem_append→R4,mem_cons→O9,mem_map→W2,mem_of_find?_eq_some→X8,mem_of_getElem?→P5,mem_singleton→P0,pairwise_cons→T4,pairwise_map→W8
open Nat renaming le_refl→N4,le_trans→Q3
open Option renaming bind_some→M0
open _root_ renaming ByteArray→L9,decide_eq_false→O7,decide_eq_true_eq→M9,decide_eq_true→O6,if_neg→M2,if_pos→M5,of_decide_eq_true→R3
namespace Go.Proofs.YtfffplonjaigkaaGreatDoor.Abs
open Go
def me (up:Int→List Int):Nat→Nat→List Int→List Int
 | 0,_,out=>out
 | n+1,k,out=>match out[k]? with
  | none=>out
  | some x=>me up n (k+1) (f8 out (up x))
section
variable {up:Int→List Int} {U:List Int} (hU : ∀ x∈U,∀ y∈up x,y∈U)
include hU
theorem Dc : ∀(n k:Nat) (out:List Int),out.Nodup→(∀ x∈out,x∈U)→U.length≤k+n→(∀ i x,i < k→out[i]? = some x → ∀ y∈up x,y∈out) →
  (me up n k out).Nodup∧(∀ x∈me up n k out,x∈U)∧(∀ x∈out,x∈me up n k out) ∧ ∀ x∈me up n k out,∀ y∈up x,y∈me up n k out
 | 0,k,out,hd,hs,hn,hc=>by
  have hl:=lP _ _ hd hs
  refine⟨hd,hs,fun x h=>h,fun x hx => ?_⟩
  obtain⟨i,hi⟩:=ai_ (show x∈out from hx)
  have:=(N7.1 hi).1
  exact hc i x (by omega) hi
 | n+1,k,out,hd,hs,hn,hc=>by
  unfold me
  cases hk:out[k]? with
  | none =>
   have hl:out.length≤k:=an_.1 hk
   refine⟨hd,hs,fun x h=>h,fun x hx => ?_⟩
   obtain⟨i,hi⟩:=ai_ (show x∈out from hx)
   have:=(N7.1 hi).1
   exact hc i x (by omega) hi
  | some x =>
   have hxU:x∈U:=hs x (P5 hk)
   obtain⟨ex,e⟩:=wl (up x) out
   have hlen:=(N7.1 hk).1
   obtain⟨r1,r2,r3,r4⟩:=Dc n (k+1) (f8 out (up x)) (mH _ _ hd) (fun z hz=>((la _ _ _).1 hz).elim (hs z) (hU x hxU z)) (by omega) (fun i z hi hz y hy=>by
    have hz':out[i]? = some z:=by
     rw[e,List.getElem?_append_left (by omega)] at hz
     exact hz
    refine(la _ _ _).2 ?_
    by_cases hik:i=k
    ·subst hik
     rw[hk] at hz'
     cases hz'
     exact .inr hy
    ·exact .inl (hc i z (by omega) hz' y hy))
   exact⟨r1,r2,fun z hz=>r3 z ((la _ _ _).2 (.inl hz)),r4⟩
end
theorem JI {l m:List Int} (hl:l.Pairwise (· < ·)) (hm:m.Pairwise (· < ·)) (h : ∀ x,x∈l↔x∈m):l=m :=
 Ik (lt:=fun a b=>decide (a < b)) (fun x=>O7 (Int.lt_irrefl x)) (fun x y z a b=>O6 (Int.lt_trans (R3 a) (R3 b)))
  (hl.imp fun h=>O6 h) (hm.imp fun h=>O6 h) h
def rQ (y:List Int) (x:List Int) (o:Int):Int:=x.foldl (fun o z=>if z∈y then z else o) o
section
variable {α R:Type} {ok:α→Bool} {lt:α→α→Bool}
def sk (ok:α→Bool) (lt:α→α→Bool):Option α→List α→Bool
 | _,[]=>true
 | p,x :: l=>(ok x && (match p with | none=>true | some q=>lt q x)) && sk ok lt (some x) l
theorem Dd {s:List α} {P:Int→R} {T F:R} (hE:P (s.length:Int)=T)
  (hP : ∀ pre y ys,s=pre++y :: ys→P (pre.length:Int)=if(ok y && (match pre.getLast? with | none=>true | some q=>lt q y))=true then P ((pre++[y]).length:Int) else F) :
  ∀ ys pre:List α,s=pre++ys→P (pre.length:Int)=if sk ok lt pre.getLast? ys=true then T else F
 | [],pre,h=>by
  have e:pre=s:=by rw[h]; simp
  rw[e,hE]
  rfl
 | y :: ys,pre,h=>by
  have ih:=Dd hE hP ys (pre++[y]) (by rw[h]; simp)
  rw[show(pre++[y]).getLast? = some y by simp] at ih
  have e:sk ok lt pre.getLast? (y :: ys)=((ok y && (match pre.getLast? with | none=>true | some q=>lt q y)) && sk ok lt (some y) ys):=rfl
  rw[hP pre y ys h,ih,e]
  cases (ok y && (match pre.getLast? with | none=>true | some q=>lt q y)) with
  | false=>rfl
  | true =>
   rw[M5 rfl]
   by_cases hc:sk ok lt (some y) ys=true
   ·rw[M5 hc,M5 (by rw[hc]; rfl)]
   ·rw[M2 hc,M2 (by rw[P4]; exact hc)]
theorem De {q:List α} {z:α}:(q++[z]).getLast? = some z:=by simp
theorem mR {s:List α} {P:Int→R} {T F:R} (hE:P (s.length:Int)=T) (h0 : ∀ y ys,s=y :: ys→P 0=if ok y=true then P 1 else F)
  (h1 : ∀ q z y ys,s=(q++[z])++y :: ys→P ((q++[z]).length:Int)=if(ok y && lt z y)=true then P (((q++[z])++[y]).length:Int) else F):P 0=if sk ok lt none s=true then T else F:=by
 refine Dd hE (fun pre y ys h => ?_) s [] rfl
 rcases List.eq_nil_or_concat pre with hp | ⟨q,z,hp⟩
 ·subst hp
  have:=h0 y ys h
  by_cases hk:ok y=true
  ·rw[M5 hk] at this
   rw[M5 (by rw[hk]; rfl)]
   exact this
  ·rw[M2 hk] at this
   rw[M2 (fun e=>hk (by simpa using e))]
   exact this
 ·rw[List.concat_eq_append] at hp
  subst hp
  have:=h1 q z y ys h
  by_cases hk:(ok y && lt z y)=true
  ·rw[M5 hk] at this
   rw[M5 (by rw[De]; exact hk)]
   exact this
  ·rw[M2 hk] at this
   rw[M2 (fun e=>hk (by rw[De] at e; exact e))]
   exact this
theorem uC (ht : ∀ a b c,lt a b=true→lt b c=true→lt a c=true) : ∀ {l:List α} {p:Option α},sk ok lt p l=true↔(∀ x∈l,ok x=true)∧l.Pairwise (fun a b=>lt a b=true) ∧ ∀ q,p=some q → ∀ x∈l,lt q x=true
 | [],p=>by simp[sk]
 | y :: l,p=>by
  have ih:=uC ht (l:=l) (p:=some y)
  unfold sk
  rw[M7,M7,ih]
  constructor
  ·rintro⟨⟨h1,h2⟩,h3,h4,h5⟩
   refine⟨fun x hx => ?_,T4.2 ⟨fun x hx=>h5 y rfl x hx,h4⟩,fun q hq x hx => ?_⟩
   ·rcases O9.1 hx with rfl | hx
    ·exact h1
    ·exact h3 x hx
   ·subst hq
    rcases O9.1 hx with rfl | hx
    ·exact h2
    ·exact ht _ _ _ h2 (h5 y rfl x hx)
  ·rintro⟨h1,h2,h3⟩
   obtain⟨h4,h5⟩:=T4.1 h2
   refine⟨⟨h1 y (by simp),?_⟩,fun x hx=>h1 x (List.mem_cons_of_mem _ hx),h5,fun q hq x hx => ?_⟩
   ·cases p with
    | none=>rfl
    | some q=>exact h3 q rfl y (by simp)
   ·cases hq
    exact h4 x hx
end
def sn (x:L9):Bool:=decide (1≤x.size) && (decide (x.size≤12) && (lb x).all fun b=>decide (97≤b.toNat) && decide (b.toNat≤122))
def o0 (a b:L9):Bool:=Op.bytesLess a.toList b.toList
theorem Df : ∀ {a b c:List UInt8},Op.bytesLess a b=true→Op.bytesLess b c=true→Op.bytesLess a c=true
 | [],[],_,h,_=>by cases h
 | [],_ :: _,[],_,k=>by cases k
 | [],_ :: _,_ :: _,_,_=>rfl
 | _ :: _,[],_,h,_=>by cases h
 | _ :: _,_ :: _,[],_,k=>by cases k
 | x :: a,y :: b,z :: c,h,k=>by
  have ih := @Df a b c
  simp only[Op.bytesLess,V9,M7,M9,beq_iff_eq] at h k ⊢
  rcases h with h | ⟨h1,h2⟩
  ·rcases k with k | ⟨k1,k2⟩
   ·exact .inl (UInt8.lt_trans h k)
   ·exact .inl (k1 ▸ h)
  ·rcases k with k | ⟨k1,k2⟩
   ·exact .inl (h1 ▸ k)
   ·exact .inr ⟨h1.trans k1,ih h2 k2⟩
theorem Im {a b c:L9} (h:o0 a b=true) (k:o0 b c=true):o0 a c=true:=Df h k
def cC (vs:List an) (id:Int):Bool:=vs.any fun v=>v.1 == id
def ol (vs:List an) (id:Int):Int:=py (fun v=>v.1 == id) vs 0
def om (vs:List an) (id:Int) (l:List Int):Bool:=sk (fun u=>decide (u < id) && cC vs u) (fun a b=>decide (a < b)) none l
noncomputable def tR (vs:List an) (nx:Int) (v:an):Bool:=bV v.1 1 (nx - 1) && (decide (v.2.1.length≤2) && (om vs v.1 v.2.1 && dX v.2.2.1))
noncomputable def yW (vs:List an) (nx:Int):Bool:=sk (tR vs nx) (fun a b=>decide (a.1 < b.1)) none vs
def pz (vs:List an) (bs:List aA):Bool:=sk (fun b=>sn b.1 && cC vs b.2.1) (fun a b=>o0 a.1 b.1) none bs
noncomputable def mI (d:bw):Bool:=bV d.1 2 1000000000 && (bV (d.2.1.length:Int) 1 40 && (bV (d.2.2.1.length:Int) 1 8 && (yW d.2.1 d.1 && pz d.2.1 d.2.2.1)))
theorem f9 {vs:List an} {id:Int}:cC vs id=true↔id∈vs.map (·.1):=by
 unfold cC
 rw[Y2,W2]
 constructor
 ·rintro⟨v,h1,h2⟩
  exact⟨v,h1,by simpa using h2⟩
 ·rintro⟨v,h1,h2⟩
  exact⟨v,h1,by simpa using h2⟩
theorem Dg {vs:List an} {id:Int}:decide (ol vs id≥0)=cC vs id:=wk vs 0
theorem JJ {vs:List an} {id:Int} {l:List Int}:om vs id l=true↔(∀ u∈l,u < id∧cC vs u=true)∧l.Pairwise (· < ·):=by
 unfold om
 rw[uC (lt:=fun a b:Int=>decide (a < b)) (fun a b c h k=>O6 (Int.lt_trans (R3 h) (R3 k)))]
 simp only[M7,M9]
 constructor
 ·rintro⟨h1,h2,_⟩
  exact⟨h1,h2⟩
 ·rintro⟨h1,h2⟩
  exact⟨h1,h2,fun q hq=>by cases hq⟩
structure fM (d:bw):Prop where
 nx:2≤d.1∧d.1≤1000000000
 vl:1≤d.2.1.length∧d.2.1.length≤40
 bl:1≤d.2.2.1.length∧d.2.2.1.length≤8
 id : ∀ v∈d.2.1,1≤v.1∧v.1≤d.1 - 1
 up : ∀ v∈d.2.1,v.2.1.length≤2∧(∀ u∈v.2.1,u < v.1∧cC d.2.1 u=true)∧v.2.1.Pairwise (· < ·)
 sh : ∀ v∈d.2.1,dX v.2.2.1=true
 vr:d.2.1.Pairwise fun a b=>a.1 < b.1
 br : ∀ b∈d.2.2.1,sn b.1=true∧cC d.2.1 b.2.1=true
 bs:d.2.2.1.Pairwise fun a b=>o0 a.1 b.1=true
theorem Ak {d:bw}:mI d=true↔fM d:=by
 unfold mI yW pz
 simp only[M7]
 rw[uC (lt:=fun a b:an=>decide (a.1 < b.1)) (fun a b c h k=>O6 (Int.lt_trans (R3 h) (R3 k))),uC (lt:=fun a b:aA=>o0 a.1 b.1) (fun a b c h k=>Im h k),bu,bu,bu]
 simp only[tR,M7,M9,bu,JJ]
 constructor
 ·rintro⟨h1,h2,h3,⟨h4,h5,_⟩,h6,h7,_⟩
  exact⟨h1,by omega,by omega,fun v hv=>(h4 v hv).1,fun v hv=>⟨(h4 v hv).2.1,(h4 v hv).2.2.1⟩,fun v hv=>(h4 v hv).2.2.2,h5,h6,h7⟩
 ·intro h
  have h2:=h.vl
  have h3:=h.bl
  exact⟨h.nx,by omega,by omega,⟨fun v hv=>⟨h.id v hv,(h.up v hv).1,(h.up v hv).2,h.sh v hv⟩,h.vr,fun q hq=>by cases hq⟩,h.br,h.bs,fun q hq=>by cases hq⟩
def tS (vs:List an) (x:Int):List Int:=match vs.find? (fun v=>v.1 == x) with
 | some v=>v.2.1
 | none=>[]
def cl (vs:List an):List Int:=vs.map (·.1)
theorem KA {vs:List an} (h:vs.Pairwise fun a b=>a.1 < b.1) {v:an} (hv:v∈vs):vs.find? (fun w=>w.1 == v.1)=some v:=by
 induction vs with
 | nil=>cases hv
 | cons w vs ih =>
  obtain⟨h1,h2⟩:=T4.1 h
  rw[List.find?_cons]
  rcases O9.1 hv with rfl | hv
  ·simp
  ·have:=h1 v hv
   have hne:(w.1 == v.1)=false:=by
    rw[beq_eq_false_iff_ne]
    omega
   rw[hne]
   exact ih h2 hv
theorem Dh {vs:List an} (h:vs.Pairwise fun a b=>a.1 < b.1) {v:an} (hv:v∈vs):tS vs v.1=v.2.1:=by
 unfold tS
 rw[KA h hv]
theorem fM.closed {d:bw} (h:fM d) : ∀ x∈cl d.2.1,∀ y∈tS d.2.1 x,y∈cl d.2.1:=by
 intro x hx y hy
 obtain⟨v,hv,rfl⟩:=W2.1 hx
 rw[Dh h.vr hv] at hy
 exact f9.1 ((h.up v hv).2.1 y hy).2
theorem fM.rise {d:bw} (h:fM d):(cl d.2.1).Pairwise (· < ·):=by
 unfold cl
 rw[W8]
 exact h.vr
theorem fM.below {d:bw} (h:fM d) : ∀ x∈cl d.2.1,∀ y∈tS d.2.1 x,y < x:=by
 intro x hx y hy
 obtain⟨v,hv,rfl⟩:=W2.1 hx
 rw[Dh h.vr hv] at hy
 exact((h.up v hv).2.1 y hy).1
def oo (vs:List an) (id:Int):List Int:=me (tS vs) (vs.length+1) 0 [id]
def lc (vs:List an) (id:Int):List Int:=(cl vs).filter fun x=>decide (x∈oo vs id)
section
variable {d:bw} (h:fM d) {a:Int} (ha:a∈cl d.2.1)
include h ha
theorem Fb:(oo d.2.1 a).Nodup∧(∀ x∈oo d.2.1 a,x∈cl d.2.1)∧a∈oo d.2.1 a ∧ ∀ x∈oo d.2.1 a,∀ y∈tS d.2.1 x,y∈oo d.2.1 a:=by
 obtain⟨h1,h2,h3,h4⟩:=Dc h.closed (d.2.1.length+1) 0 [a] (by simp) (fun x hx=>by rw[P0.1 hx]; exact ha) (by unfold cl; rw[S8]; omega) (fun i x hi=>by omega)
 exact⟨h1,h2,h3 a (by simp),h4⟩
theorem JK (x:Int):x∈lc d.2.1 a↔x∈oo d.2.1 a:=by
 unfold lc
 rw[List.mem_filter,M9]
 exact⟨fun h=>h.2,fun hx=>⟨(Fb h ha).2.1 x hx,hx⟩⟩
theorem Io:(lc d.2.1 a).Pairwise (· < ·):=List.Pairwise.filter _ h.rise
theorem JL:(oo d.2.1 a).mergeSort (fun x y=>decide (x≤y))=lc d.2.1 a:=by
 have hs:=List.pairwise_mergeSort (le:=fun x y:Int=>decide (x≤y)) (fun a b c h k=>by simp only[M9] at *; omega) (fun a b=>by simp only[V9,M9]; omega) (oo d.2.1 a)
 have hp:=List.mergeSort_perm (oo d.2.1 a) (fun x y=>decide (x≤y))
 have hn:((oo d.2.1 a).mergeSort (fun x y=>decide (x≤y))).Nodup:=hp.nodup_iff.2 (Fb h ha).1
 refine JI ?_ (Io h ha) fun x => ?_
 ·refine(hs.and hn).imp fun {x y} hxy => ?_
  have h1:=R3 hxy.1
  have h2:=hxy.2
  omega
 ·rw[hp.mem_iff,JK h ha]
end
noncomputable def GE (d:bw) (a b:Int):Int:=if mI d=true∧cC d.2.1 a=true∧cC d.2.1 b=true then rQ (lc d.2.1 b) (lc d.2.1 a) 0 else 0
def Di (bs:List aA) (n:L9):Int:=match bs.find? (fun b=>decide (b.1=n)) with
 | some b=>b.2.1
 | none=>0
def wm (bs:List aA) (n:L9):Bool:=bs.any fun b=>decide (b.1=n)
def km (bs:List aA) (n:L9) (h:Int):List aA:=bs.map fun b=>if b.1=n then(b.1,h,()) else b
def Ls (vs:List an) (x:Int):List bo:=match vs.find? (fun v=>v.1 == x) with
 | some v=>v.2.2.1
 | none=>[]
def L6 (d:bw) (n:L9) (us:List Int) (s:List bo):bw:=(d.1+1,d.2.1++[(d.1,us,s,())],km d.2.2.1 n d.1,())
def Lt (d:bw):Bool:=decide (d.2.1.length=40) || decide (d.1=1000000000)
theorem Al {bs:List aA} {n:L9}:wm bs n=(bs.find? (fun b=>decide (b.1=n))).isSome:=by
 unfold wm
 rw[R8,Y2,List.find?_isSome]
theorem KB {bs:List aA} {n:L9} (h:wm bs n=true) : ∃ b∈bs,b.1=n∧Di bs n=b.2.1:=by
 rw[Al] at h
 obtain⟨b,hb⟩:=Option.isSome_iff_exists.1 h
 refine⟨b,X8 hb,?_,?_⟩
 ·have:=List.find?_some hb
  exact R3 this
 ·unfold Di
  rw[hb]
theorem KC {bs:List aA} {n:L9} (h:wm bs n=false):Di bs n=0:=by
 rw[Al] at h
 unfold Di
 cases hf:bs.find? (fun b=>decide (b.1=n)) with
 | none=>rfl
 | some b=>rw[hf] at h; cases h
theorem Dj {bs:List aA} {n:L9} {h:Int}:(km bs n h).map (·.1)=bs.map (·.1):=by
 unfold km
 rw[List.map_map]
 refine List.map_congr_left fun b _ => ?_
 show(if b.1=n then(b.1,h,()) else b:aA).1=b.1
 split <;> rfl
theorem Dk {bs:List aA} {n:L9} {h:Int} {b:aA} (hb:b∈km bs n h):(∃ c∈bs,c.1=b.1)∧(b.2.1=h∨b∈bs):=by
 unfold km at hb
 obtain⟨c,hc,rfl⟩:=W2.1 hb
 by_cases e:c.1=n
 ·rw[M5 e]
  exact⟨⟨c,hc,rfl⟩,.inl rfl⟩
 ·rw[M2 e]
  exact⟨⟨c,hc,rfl⟩,.inr hc⟩
section
variable {d:bw} (h:fM d)
include h
theorem fM.head {n:L9} (hn:wm d.2.2.1 n=true):Di d.2.2.1 n∈cl d.2.1∧1≤Di d.2.2.1 n:=by
 obtain⟨b,hb,_,e⟩:=KB hn
 rw[e]
 have:=f9.1 (h.br b hb).2
 obtain⟨v,hv,hh⟩:=W2.1 this
 exact⟨this,by rw[←hh]; exact(h.id v hv).1⟩
theorem fM.hd0 (n:L9):Di d.2.2.1 n=0↔wm d.2.2.1 n=false:=by
 cases hn:wm d.2.2.1 n with
 | false=>simp[KC hn]
 | true =>
  have:=(h.head hn).2
  simp
  omega
theorem fM.moved {n:L9} {x:Int} (hx:x∈cl d.2.1):fM (d.1,d.2.1,km d.2.2.1 n x,()):=by
 have hl:(km d.2.2.1 n x).length=d.2.2.1.length:=by
  unfold km
  rw[S8]
 refine⟨h.nx,h.vl,by show 1≤(km d.2.2.1 n x).length∧(km d.2.2.1 n x).length≤8; rw[hl]; exact h.bl,h.id,h.up,h.sh,h.vr,fun b hb => ?_,?_⟩
 ·obtain⟨⟨c,hc,e⟩,h2⟩:=Dk hb
  refine⟨by rw[←e]; exact(h.br c hc).1,?_⟩
  rcases h2 with h2 | h2
  ·rw[h2]
   exact f9.2 hx
  ·exact(h.br b h2).2
 ·have:=h.bs
  have h1:(d.2.2.1.map (·.1)).Pairwise fun a b=>o0 a b=true:=W8.2 this
  rw[←Dj (n:=n) (h:=x)] at h1
  exact W8.1 h1
theorem fM.new_id:d.1 ∉ cl d.2.1:=by
 intro hd
 obtain⟨v,hv,e⟩:=W2.1 hd
 have:=(h.id v hv).2
 omega
theorem wn {vs:List an} {v:an} {x:Int}:cC (vs++[v]) x=(cC vs x || v.1 == x):=by
 unfold cC
 rw[List.any_append]
 simp
theorem fM.grown {n:L9} {us:List Int} {s:List bo} (hf:Lt d=false) (hu:us.length≤2) (hus : ∀ u∈us,u∈cl d.2.1) (hur:us.Pairwise (· < ·)) (hs:dX s=true):fM (L6 d n us s):=by
 unfold Lt at hf
 rw[Bool.or_eq_false_iff,decide_eq_false_iff_not,decide_eq_false_iff_not] at hf
 have h1:=h.nx
 have h2:=h.vl
 have hlt : ∀ x∈cl d.2.1,x < d.1:=fun x hx=>by
  obtain⟨v,hv,rfl⟩:=W2.1 hx
  have:=(h.id v hv).2
  omega
 have hl:(km d.2.2.1 n d.1).length=d.2.2.1.length:=by
  unfold km
  rw[S8]
 refine⟨by show 2≤d.1+1∧d.1+1≤1000000000; omega,by show 1≤(d.2.1++[_]).length∧(d.2.1++[_]).length≤40; rw[M6,M3]; omega,by show 1≤(km d.2.2.1 n d.1).length∧(km d.2.2.1 n d.1).length≤8; rw[hl]; exact h.bl,fun v hv => ?_,fun v hv => ?_,fun v hv => ?_,?_,fun b hb => ?_,?_⟩
 ·show 1≤v.1∧v.1≤d.1+1 - 1
  rcases R4.1 hv with hv | hv
  ·have:=h.id v hv
   omega
  ·rw[P0.1 hv]
   show 1≤d.1∧d.1≤d.1+1 - 1
   omega
 ·rcases R4.1 hv with hv | hv
  ·obtain⟨k1,k2,k3⟩:=h.up v hv
   refine⟨k1,fun u hu=>⟨(k2 u hu).1,?_⟩,k3⟩
   show cC (d.2.1++[_]) u=true
   rw[wn h,(k2 u hu).2,Bool.true_or]
  ·rw[P0.1 hv]
   refine⟨hu,fun u hu'=>⟨hlt u (hus u hu'),?_⟩,hur⟩
   show cC (d.2.1++[_]) u=true
   rw[wn h,f9.2 (hus u hu'),Bool.true_or]
 ·rcases R4.1 hv with hv | hv
  ·exact h.sh v hv
  ·rw[P0.1 hv]
   exact hs
 ·show(d.2.1++[(d.1,us,s,())]).Pairwise fun a b=>a.1 < b.1
  refine List.pairwise_append.2 ⟨h.vr,List.pairwise_singleton _ _,fun a ha b hb => ?_⟩
  rw[P0.1 hb]
  exact hlt _ (W2.2 ⟨a,ha,rfl⟩)
 ·obtain⟨⟨c,hc,e⟩,k⟩:=Dk hb
  refine⟨by rw[←e]; exact(h.br c hc).1,?_⟩
  show cC (d.2.1++[_]) b.2.1=true
  rw[wn h]
  rcases k with k | k
  ·rw[k]
   simp
  ·rw[(h.br b k).2,Bool.true_or]
 ·have h1:(d.2.2.1.map (·.1)).Pairwise fun a b=>o0 a b=true:=W8.2 h.bs
  rw[←Dj (n:=n) (h:=d.1)] at h1
  exact W8.1 h1
end
theorem fM.sheet {d:bw} (h:fM d) (x:Int):dX (Ls d.2.1 x)=true:=by
 unfold Ls
 cases hf:d.2.1.find? (fun v=>v.1 == x) with
 | none=>exact Ep.2 ⟨List.Pairwise.nil,(fun c hc=>by cases hc),Nat.zero_le _⟩
 | some v=>exact h.sh v (X8 hf)
section
variable {d:bw} (h:fM d)
include h
end
theorem eW (vs:List an) (x:Int):decide (ol vs x < 0) = !cC vs x:=by
 rw[←Dg]
 by_cases h:ol vs x < 0
 ·rw[O6 h,O7 (by omega)]
  rfl
 ·rw[O7 h,O6 (by omega)]
  rfl
theorem jn {d:bw} (hl:d.2.1.length≤1000000000) (x:Int):jf d x=some ((ol d.2.1 x,()),()):=by
 rw[D6]
 exact rP (s:=d.2.1) (d:=aC.dflt) (p:=fun v=>v.1 == x) (P:=fun j=>lr x j d.1 d.2.1 d.2.2.1) (F:=fun j=>some ((j,()),())) (by omega) (fun j=>yF) d.2.1 [] rfl
theorem jo {d:bw} (hl:d.2.1.length≤1000000000) (x:Int):dN d x=some ((ol d.2.1 x,()),()):=by
 rw[xg,fJ]
 have h:=rP (s:=d.2.1) (d:=aC.dflt) (p:=fun v=>v.1 == x) (P:=fun j=>bc d.2.1 (d.2.1.length:Int) j x) (F:=fun j=>some ((j,()),(x,()))) (by omega) (fun j=>by
  rw[ff]
  simp only[uF,M0]) d.2.1 [] rfl
 have h':bc d.2.1 (d.2.1.length:Int) 0 x=some ((ol d.2.1 x,()),(x,())):=h
 rw[h']
 rfl
theorem Lu (b:UInt8):[97,98,99,100,101,102,103,104,105,106,107,108,109,110,111,112,113,114,115,116,117,118,119,120,121,122].contains b=(decide (97≤b.toNat) && decide (b.toNat≤122)):=by
 have : ∀ n:Fin 256,[97,98,99,100,101,102,103,104,105,106,107,108,109,110,111,112,113,114,115,116,117,118,119,120,121,122].contains (UInt8.ofNat n.val)=(decide (97≤(UInt8.ofNat n.val).toNat) && decide ((UInt8.ofNat n.val).toNat≤122)):=by decide +kernel
 have h:=this ⟨b.toNat,UInt8.toNat_lt b⟩
 simpa using h
theorem Ip (d cs:ae):(Lib.trimS d cs=[])↔d.all (fun b=>cs.contains b)=true:=by
 unfold Lib.trimS Lib.trimLeftS Lib.trimRightS
 rw[gQ]
 constructor
 ·intro h
  cases hr:d.reverse.dropWhile (cs.contains ·) with
  | nil =>
   rw[gQ] at hr
   simpa using hr
  | cons x t =>
   have hx:=rN hr
   rw[hr] at h
   simp only[List.all_reverse,U1,M7] at h
   rw[hx] at h
   cases h.1
 ·intro h
  have:d.reverse.dropWhile (cs.contains ·)=[]:=gQ.2 (by simpa using h)
  rw[this]
  rfl
theorem KD {x c:L9} (h:lB c=true) (hx:x.size≤9223372036854775807):gJ x c=some ((ba (Lib.trimS (lb x) (lb c)),()),()):=by
 rw[oL]
 exact M5 ⟨h,hx⟩
theorem Dl {x:L9} (h:x.size≤9223372036854775807):yp x=some ((sn x,()),()):=by
 rw[F8]
 unfold sn
 by_cases h1:1≤x.size
 ·rw[av (by omega),O6 h1]
  by_cases h2:x.size≤12
  ·rw[av (by omega),O6 h2,show(⟨#[97,98,99,100,101,102,103,104,105,106,107,108,109,110,111,112,113,114,115,116,117,118,119,120,121,122]⟩:L9)=ba [97,98,99,100,101,102,103,104,105,106,107,108,109,110,111,112,113,114,115,116,117,118,119,120,121,122] from rfl,KD (by decide +kernel) h,M0,cP]
   have e0 : ∀ x:ae,(M1 (ba x) == M1 (⟨#[]⟩:L9))=decide (x=[]):=fun x=>cI (b:=[])
   dsimp only
   rw[e0]
   congr 3
   rw[P4,P4,R8,M9,Ip]
   rw[show(fun b:UInt8=>List.contains [97,98,99,100,101,102,103,104,105,106,107,108,109,110,111,112,113,114,115,116,117,118,119,120,121,122] b)=fun b=>(decide (97≤b.toNat) && decide (b.toNat≤122)) from funext Lu]
  ·rw[aq (by omega),O7 h2]
   rfl
 ·rw[aq (by omega),O7 h1]
  rfl
theorem xX {l:ae} (hl:l.length≤1000) : ∀(ys pre:ae),l=pre++ys→lu (ba l) (pre.length:Int)=some ((ys.all (fun b=>decide (97≤b.toNat) && decide (b.toNat≤122)),()),())
 | [],pre,h=>by
  rw[qp,aB,aq (df h)]
  rfl
 | y :: ys,pre,h=>by
  rw[qp,aB,av (bQ h),fh h,fh h,aV h (by omega),xX hl ys _ (bh h),U1]
  by_cases h1:y.toNat < 97
  ·rw[av (by omega),O7 (by omega)]
   simp
  ·rw[aq (by omega),O6 (p:=97≤y.toNat) (by omega)]
   by_cases h2:122 < y.toNat
   ·rw[av (by omega),O7 (by omega)]
    simp
   ·rw[aq (by omega),O6 (p:=y.toNat≤122) (by omega)]
    simp
theorem Dn {x:L9} (h:x.size≤9223372036854775807):vL x=some ((sn x,()),()):=by
 rw[D7]
 unfold sn
 by_cases h1:1≤x.size
 ·rw[aq (by omega),O6 h1]
  by_cases h2:x.size≤12
  ·rw[aq (by omega),O6 h2]
   have:=xX (l:=lb x) (by rw[ut]; omega) (lb x) [] rfl
   rw[gt] at this
   exact this
  ·rw[av (by omega),O7 h2]
   simp
 ·rw[av (by omega),O7 h1]
  simp
structure Lv (d:bw):Prop where
 vl:d.2.1.length≤1000000000
 bl:d.2.2.1.length≤1000000000
 ul : ∀ v∈d.2.1,v.2.1.length≤1000000000
 sl : ∀ v∈d.2.1,v.2.2.1.length≤1000000000
 ss : ∀ v∈d.2.1,∀ c∈v.2.2.1,c.2.1.size≤9223372036854775807
 bs : ∀ b∈d.2.2.1,b.1.size≤9223372036854775807
theorem mS {α β:Type} {s q ys:List α} {z y d:α} {f:α→Option β} (h:s=(q++[z])++y :: ys) (hl:s.length≤1000000000000):ix s (aq_ ar_ (((q++[z]).length:Int) - 1)) d f=f z:=by
 have hq:((q++[z]).length:Int) - 1=(q.length:Int):=by simp
 have hlt:q.length < s.length:=by rw[h]; simp
 rw[hq,wr (by omega) (by omega)]
 exact bG (pre:=q) (ys:=y :: ys) (by rw[h]; simp)
section
variable {d:bw} (hz:Lv d)
include hz
theorem Fc {us:List Int} (hu:us.length≤1000000000) (id:Int):mv d us id=some ((om d.2.1 id us && decide (us.length≤2),()),()):=by
 rw[AJ]
 have h:=mR (ok:=fun u=>decide (u < id) && cC d.2.1 u) (lt:=fun a b:Int=>decide (a < b)) (s:=us) (P:=fun j=>cX us id us (us.length:Int) j d.1 d.2.1 d.2.2.1) (T:=some ((decide (us.length≤2),()),())) (F:=some ((false,()),()))
  (by
   show cX us id us (us.length:Int) (us.length:Int) d.1 d.2.1 d.2.2.1=_
   rw[jh,aq (by omega)]
   congr 3
   rw[R8,M9,M9]
   omega)
  (fun y ys h=>by
   show cX us id us (us.length:Int) (([]:List Int).length:Int) d.1 d.2.1 d.2.2.1=_
   rw[jh,av (bQ (pre:=[]) h),bG (pre:=[]) h,aV (pre:=[]) h (by omega),show((d.1,d.2.1,d.2.2.1,()):bw)=d from rfl,jo hz.vl,M0]
   dsimp only
   rw[eW]
   by_cases h1:y < id
   ·rw[aq (by omega),O6 h1]
    cases cC d.2.1 y with
    | false=>simp
    | true =>
     rw[M2 (by decide)]
     rw[aq (by simp)]
     simp
   ·rw[av (by omega),O7 h1]
    simp)
  (fun q z y ys h=>by
   show cX us id us (us.length:Int) ((q++[z]).length:Int) d.1 d.2.1 d.2.2.1=_
   rw[jh,av (bQ h),bG h,aV h (by omega),show((d.1,d.2.1,d.2.2.1,()):bw)=d from rfl,jo hz.vl,M0]
   dsimp only
   rw[eW]
   by_cases h1:y < id
   ·rw[aq (by omega),O6 h1]
    cases cC d.2.1 y with
    | false=>simp
    | true =>
     rw[M2 (by decide)]
     rw[av (by rw[M6,M3]; omega),mS h (by omega)]
     by_cases h2:z < y
     ·rw[aq (by omega),O6 h2]
      simp
     ·rw[av (by omega),O7 h2]
      simp
   ·rw[av (by omega),O7 h1]
    simp)
 have h':cX us id us (us.length:Int) 0 d.1 d.2.1 d.2.2.1=_:=h
 rw[h']
 show(if om d.2.1 id us=true then _ else _)=_
 cases om d.2.1 id us <;> simp
theorem Iq:dG d.2.2.1 (d.2.2.1.length:Int) 0 d.1 d.2.1 d.2.2.1=some ((pz d.2.1 d.2.2.1,()),()):=by
 have hb:=hz.bl
 have h:=mR (ok:=fun b:aA=>sn b.1 && cC d.2.1 b.2.1) (lt:=fun a b:aA=>o0 a.1 b.1) (s:=d.2.2.1) (P:=fun j=>dG d.2.2.1 (d.2.2.1.length:Int) j d.1 d.2.1 d.2.2.1) (T:=some ((true,()),())) (F:=some ((false,()),()))
  (by
   show dG d.2.2.1 (d.2.2.1.length:Int) (d.2.2.1.length:Int) d.1 d.2.1 d.2.2.1=_
   rw[l8,aq (by omega)])
  (fun y ys h=>by
   show dG d.2.2.1 (d.2.2.1.length:Int) (([]:List aA).length:Int) d.1 d.2.1 d.2.2.1=_
   rw[l8,av (bQ (pre:=[]) h),bG (pre:=[]) h,aV (pre:=[]) h (by omega),show((d.1,d.2.1,d.2.2.1,()):bw)=d from rfl,Dl (hz.bs y (by rw[h]; simp)),M0,jo hz.vl,M0]
   dsimp only
   rw[eW]
   cases sn y.1 with
   | false=>simp
   | true =>
    rw[M2 (by decide)]
    rw[aq (by simp)]
    cases cC d.2.1 y.2.1 <;> simp)
  (fun q z y ys h=>by
   show dG d.2.2.1 (d.2.2.1.length:Int) ((q++[z]).length:Int) d.1 d.2.1 d.2.2.1=_
   rw[l8,av (bQ h),bG h,aV h (by omega),show((d.1,d.2.1,d.2.2.1,()):bw)=d from rfl,Dl (hz.bs y (by rw[h]; simp)),M0,jo hz.vl,M0]
   dsimp only
   rw[eW]
   cases sn y.1 with
   | false=>simp
   | true =>
    rw[M2 (by decide)]
    rw[av (by rw[M6,M3]; omega),mS h (by omega)]
    show(if(!o0 z.1 y.1)=true then _ else _)=_
    cases o0 z.1 y.1 <;> cases cC d.2.1 y.2.1 <;> simp)
 have h':dG d.2.2.1 (d.2.2.1.length:Int) 0 d.1 d.2.1 d.2.2.1=_:=h
 rw[h']
 show(if pz d.2.1 d.2.2.1=true then _ else _)=_
 cases pz d.2.1 d.2.2.1 <;> rfl
theorem Ir:B7 d=some ((mI d,()),()):=by
 have hv:=hz.vl
 have hb:=hz.bl
 rw[HK,dH,M0]
 dsimp only
 unfold mI
 cases h1:bV d.1 2 1000000000 with
 | false=>simp
 | true =>
  have hn:=bu.1 h1
  rw[M2 (by decide),dH,M0]
  dsimp only
  cases h2:bV (d.2.1.length:Int) 1 40 with
  | false=>simp
  | true =>
   rw[M2 (by decide),dH,M0]
   dsimp only
   cases h3:bV (d.2.2.1.length:Int) 1 8 with
   | false=>simp
   | true =>
    rw[M2 (by decide)]
    have h:=mR (ok:=tR d.2.1 d.1) (lt:=fun a b:an=>decide (a.1 < b.1)) (s:=d.2.1) (P:=fun j=>fd d.2.1 (d.2.1.length:Int) j d.1 d.2.1 d.2.2.1) (T:=some ((pz d.2.1 d.2.2.1,()),())) (F:=some ((false,()),()))
     (by
      show fd d.2.1 (d.2.1.length:Int) (d.2.1.length:Int) d.1 d.2.1 d.2.2.1=_
      rw[n5,aq (by omega)]
      exact Iq hz)
     (fun y ys h=>by
      have hy:y∈d.2.1:=by rw[h]; simp
      show fd d.2.1 (d.2.1.length:Int) (([]:List an).length:Int) d.1 d.2.1 d.2.2.1=_
      rw[n5,av (bQ (pre:=[]) h),bG (pre:=[]) h,aV (pre:=[]) h (by omega),show((d.1,d.2.1,d.2.2.1,()):bw)=d from rfl,wr (n:=d.1 - 1) (by omega) (by omega)]
      simp only[dH,M0,Fc hz (hz.ul y hy),vh (hz.ss y hy) (hz.sl y hy)]
      unfold tR
      rw[aq (by simp)]
      cases bV y.1 1 (d.1 - 1) <;> cases om d.2.1 y.1 y.2.1 <;> cases dX y.2.2.1 <;> by_cases hl:y.2.1.length≤2 <;> simp[hl])
     (fun q z y ys h=>by
      have hy:y∈d.2.1:=by rw[h]; simp
      show fd d.2.1 (d.2.1.length:Int) ((q++[z]).length:Int) d.1 d.2.1 d.2.2.1=_
      rw[n5,av (bQ h),bG h,aV h (by omega),show((d.1,d.2.1,d.2.2.1,()):bw)=d from rfl,wr (n:=d.1 - 1) (by omega) (by omega)]
      simp only[dH,M0,Fc hz (hz.ul y hy),vh (hz.ss y hy) (hz.sl y hy)]
      unfold tR
      rw[av (by rw[M6,M3]; omega),mS h (by omega)]
      by_cases h2:z.1 < y.1
      ·rw[aq (by omega),O6 h2]
       cases bV y.1 1 (d.1 - 1) <;> cases om d.2.1 y.1 y.2.1 <;> cases dX y.2.2.1 <;> by_cases hl:y.2.1.length≤2 <;> simp[hl]
      ·rw[av (by omega),O7 h2]
       cases bV y.1 1 (d.1 - 1) <;> simp)
    have h':fd d.2.1 (d.2.1.length:Int) 0 d.1 d.2.1 d.2.2.1=_:=h
    rw[h']
    show(if yW d.2.1 d.1=true then _ else _)=_
    cases yW d.2.1 d.1 <;> simp
theorem It:dF 0 d.1 d.2.1 d.2.2.1=some ((pz d.2.1 d.2.2.1,()),()):=by
 have hb:=hz.bl
 have h:=mR (ok:=fun b:aA=>sn b.1 && cC d.2.1 b.2.1) (lt:=fun a b:aA=>o0 a.1 b.1) (s:=d.2.2.1) (P:=fun j=>dF j d.1 d.2.1 d.2.2.1) (T:=some ((true,()),())) (F:=some ((false,()),()))
  (by
   show dF (d.2.2.1.length:Int) d.1 d.2.1 d.2.2.1=_
   rw[l7,aq (by omega)])
  (fun y ys h=>by
   show dF (([]:List aA).length:Int) d.1 d.2.1 d.2.2.1=_
   rw[l7,av (bQ (pre:=[]) h),bG (pre:=[]) h,aV (pre:=[]) h (by omega),show((d.1,d.2.1,d.2.2.1,()):bw)=d from rfl,Dn (hz.bs y (by rw[h]; simp)),M0,jn hz.vl,M0]
   dsimp only
   rw[eW]
   cases sn y.1 with
   | false=>simp
   | true =>
    rw[M2 (by decide)]
    rw[aq (by simp)]
    cases cC d.2.1 y.2.1 <;> simp)
  (fun q z y ys h=>by
   show dF ((q++[z]).length:Int) d.1 d.2.1 d.2.2.1=_
   rw[l7,av (bQ h),bG h,aV h (by omega),show((d.1,d.2.1,d.2.2.1,()):bw)=d from rfl,Dn (hz.bs y (by rw[h]; simp)),M0,jn hz.vl,M0]
   dsimp only
   rw[eW]
   cases sn y.1 with
   | false=>simp
   | true =>
    rw[M2 (by decide)]
    rw[av (by rw[M6,M3]; omega),mS h (by omega)]
    show(if(!cC d.2.1 y.2.1)=true then _ else if(!o0 z.1 y.1)=true then _ else _)=_
    cases o0 z.1 y.1 <;> cases cC d.2.1 y.2.1 <;> simp)
 have h':dF 0 d.1 d.2.1 d.2.2.1=_:=h
 rw[h']
 show(if pz d.2.1 d.2.2.1=true then _ else _)=_
 cases pz d.2.1 d.2.2.1 <;> rfl
theorem Am {us:List Int} (hu:us.length≤1000000000) (i id:Int) (sh:List bo):dE i 0 d.1 d.2.1 d.2.2.1 id us sh=if om d.2.1 id us=true then ep (aq_ ar_ (i+1)) d.1 d.2.1 d.2.2.1 else some ((false,()),()):=by
 have h:=mR (ok:=fun u=>decide (u < id) && cC d.2.1 u) (lt:=fun a b:Int=>decide (a < b)) (s:=us) (P:=fun j=>dE i j d.1 d.2.1 d.2.2.1 id us sh) (T:=ep (aq_ ar_ (i+1)) d.1 d.2.1 d.2.2.1) (F:=some ((false,()),()))
  (by
   show dE i (us.length:Int) d.1 d.2.1 d.2.2.1 id us sh=_
   rw[l6,aq (by omega)])
  (fun y ys h=>by
   show dE i (([]:List Int).length:Int) d.1 d.2.1 d.2.2.1 id us sh=_
   rw[l6,av (bQ (pre:=[]) h)]
   simp only[bG (pre:=[]) h]
   rw[aV (pre:=[]) h (by omega),show((d.1,d.2.1,d.2.2.1,()):bw)=d from rfl,jn hz.vl,M0]
   dsimp only
   rw[eW]
   by_cases h1:y < id
   ·rw[aq (by omega),O6 h1]
    cases cC d.2.1 y with
    | false=>simp
    | true =>
     rw[M2 (by decide)]
     rw[aq (by simp)]
     simp
   ·rw[av (by omega),O7 h1]
    simp)
  (fun q z y ys h=>by
   show dE i ((q++[z]).length:Int) d.1 d.2.1 d.2.2.1 id us sh=_
   rw[l6,av (bQ h)]
   simp only[bG h]
   rw[aV h (by omega),show((d.1,d.2.1,d.2.2.1,()):bw)=d from rfl,jn hz.vl,M0]
   dsimp only
   rw[eW]
   by_cases h1:y < id
   ·rw[aq (by omega),O6 h1]
    cases cC d.2.1 y with
    | false=>simp
    | true =>
     rw[M2 (by decide)]
     rw[av (by rw[M6,M3]; omega),mS h (by omega)]
     by_cases h2:z < y
     ·rw[aq (by omega),O6 h2]
      simp
     ·rw[av (by omega),O7 h2]
      simp
   ·rw[av (by omega),O7 h1]
    simp)
 exact h
theorem Iu:B6 d=some ((mI d,()),()):=by
 have hv:=hz.vl
 have hb:=hz.bl
 rw[HF,gN,M0]
 dsimp only
 unfold mI
 cases h1:bV d.1 2 1000000000 with
 | false=>simp
 | true =>
  have hn:=bu.1 h1
  rw[M2 (by decide)]
  cases h2:bV (d.2.1.length:Int) 1 40 with
  | false =>
   have h2' : ¬((1:Int)≤(d.2.1.length:Int)∧(d.2.1.length:Int)≤40):=fun h=>by rw[bu.2 h] at h2; cases h2
   by_cases h4:(d.2.1.length:Int) < 1
   ·rw[av h4]
    simp
   ·rw[aq h4,av (by omega)]
    simp
  | true =>
   have h2':=bu.1 h2
   rw[aq (by omega),aq (by omega)]
   cases h3:bV (d.2.2.1.length:Int) 1 8 with
   | false =>
    have h3' : ¬((1:Int)≤(d.2.2.1.length:Int)∧(d.2.2.1.length:Int)≤8):=fun h=>by rw[bu.2 h] at h3; cases h3
    by_cases h4:(d.2.2.1.length:Int) < 1
    ·rw[av h4]
     simp
    ·rw[aq h4,av (by omega)]
     simp
   | true =>
    have h3':=bu.1 h3
    rw[aq (by omega),aq (by omega)]
    have h:=mR (ok:=tR d.2.1 d.1) (lt:=fun a b:an=>decide (a.1 < b.1)) (s:=d.2.1) (P:=fun j=>ep j d.1 d.2.1 d.2.2.1) (T:=some ((pz d.2.1 d.2.2.1,()),())) (F:=some ((false,()),()))
     (by
      show ep (d.2.1.length:Int) d.1 d.2.1 d.2.2.1=_
      rw[nZ,aq (by omega)]
      exact It hz)
     (fun y ys h=>by
      have hy:y∈d.2.1:=by rw[h]; simp
      show ep (([]:List an).length:Int) d.1 d.2.1 d.2.2.1=_
      rw[nZ,av (bQ (pre:=[]) h),bG (pre:=[]) h,wr (n:=d.1 - 1) (by omega) (by omega)]
      simp only[gN,M0,Am hz (hz.ul y hy),vi (hz.ss y hy) (by have:=hz.sl y hy; omega)]
      rw[aV (pre:=[]) h (by omega)]
      unfold tR
      rw[aq (by simp)]
      cases bV y.1 1 (d.1 - 1) <;> cases om d.2.1 y.1 y.2.1 <;> cases dX y.2.2.1 <;> by_cases hl:y.2.1.length≤2 <;> simp[hl] <;> omega)
     (fun q z y ys h=>by
      have hy:y∈d.2.1:=by rw[h]; simp
      show ep ((q++[z]).length:Int) d.1 d.2.1 d.2.2.1=_
      rw[nZ,av (bQ h),bG h,wr (n:=d.1 - 1) (by omega) (by omega)]
      simp only[gN,M0,Am hz (hz.ul y hy),vi (hz.ss y hy) (by have:=hz.sl y hy; omega)]
      rw[aV h (by omega)]
      unfold tR
      rw[av (by rw[M6,M3]; omega),mS h (by omega)]
      by_cases h2:z.1 < y.1
      ·rw[aq (by omega),O6 h2]
       cases bV y.1 1 (d.1 - 1) <;> cases om d.2.1 y.1 y.2.1 <;> cases dX y.2.2.1 <;> by_cases hl:y.2.1.length≤2 <;> simp[hl] <;> omega
      ·rw[av (by omega),O7 h2]
       cases bV y.1 1 (d.1 - 1) <;> simp)
    have h':ep 0 d.1 d.2.1 d.2.2.1=_:=h
    rw[h']
    show(if yW d.2.1 d.1=true then _ else _)=_
    cases yW d.2.1 d.1 <;> simp
end
theorem Fd {l:List Int} (hl:l.length≤1000000000) (y:Int):cu l y=some ((decide (y∈l),()),()):=by
 have h:b7 l y (l.length:Int) 0=some ((py (fun z=>y == z) l 0,()),()):=rP (s:=l) (d:=0) (p:=fun z=>y == z) (P:=fun j=>b7 l y (l.length:Int) j) (F:=fun j=>some ((j,()),())) (by omega) (fun j=>ji) l [] rfl
 rw[jg,kn,h]
 simp only[M0,wk]
 have e:(l.any fun z=>y == z)=decide (y∈l):=by
  rw[R8,Y2,M9]
  constructor
  ·rintro⟨z,hz,h⟩
   rw[beq_iff_eq] at h
   rw[h]
   exact hz
  ·intro h
   exact⟨y,h,by simp⟩
 rw[e]
theorem An {l:List Int} {y:Int} (hl:l.length≤1000000000) : ∀(ys pre:List Int),l=pre++ys→mC l y (pre.length:Int)=some ((decide (y∈ys),()),())
 | [],pre,h=>by
  rw[r5,aq (df h)]
  simp
 | z :: ys,pre,h=>by
  rw[r5,av (bQ h),bG h,aV h (by omega),An hl ys _ (bh h)]
  by_cases e:z=y
  ·rw[M5 (by simpa using e)]
   simp[e]
  ·rw[M2 (by simpa using e)]
   simp[Ne.symm e]
theorem yX {l:List Int} (hl:l.length≤1000000000) (y:Int):p9 l y=some ((decide (y∈l),()),()):=by
 rw[F0]
 exact An hl l [] rfl
theorem Lw {vs:List an} {x:Int} (hx:cC vs x=true) : ∃ v∈vs,v.1=x ∧ ∀ {β:Type} (d:an) (F:an→Option β),ix vs (ol vs x) d F=F v:=by
 have h0:ol vs x ≠ -1:=by
  have:=Dg (vs:=vs) (id:=x)
  rw[hx,M9] at this
  omega
 obtain⟨pre,v,ys,h1,h2,h3,h4⟩:=Fa h0
 refine⟨v,by rw[h1]; simp,by simpa using h2,fun d F => ?_⟩
 have h5:ol vs x=(pre.length:Int):=by
  rw[show ol vs x=_ from h4]
  simp
 rw[h5]
 exact bG h1
theorem Dp {l:List Int} (hl:l.length≤1000000000):dQ l=some ((),l.mergeSort (fun x y=>decide (x≤y)),()):=by
 rw[ka]
 unfold jw
 simp only[gk?,dite_true,M0]
 exact M5 (by omega)
section
variable {d:bw} (h:fM d)
include h
theorem uD:(cl d.2.1).length≤40:=by
 unfold cl
 rw[S8]
 exact h.vl.2
theorem uE {out:List Int} (hd:out.Nodup) (hs : ∀ x∈out,x∈cl d.2.1):out.length≤40:=Q3 (lP _ _ hd hs) (uD h)
omit h in
theorem yY {k:Int} {us:List Int} (hu:us.length≤1000) : ∀(ys pre out:List Int),us=pre++ys→out.length+ys.length≤1000000→eU k us (us.length:Int) (pre.length:Int) d.1 d.2.1 d.2.2.1 out=gd (aq_ ar_ (k+1)) d.1 d.2.1 d.2.2.1 (f8 out ys)
 | [],pre,out,e,hb=>by
  rw[n8,aq (df e)]
  rfl
 | y :: ys,pre,out,e,hb=>by
  rw[N3] at hb
  rw[n8,av (bQ e),bG e,aV e (by omega),Fd (by omega),M0,Il]
  dsimp only
  by_cases hy:y∈out
  ·rw[M2 (by simp[hy]),M5 hy]
   exact yY hu ys _ out (bh e) (by omega)
  ·rw[M5 (by simp[hy]),M2 hy,dv (by simp only[M3]; omega)]
   exact yY hu ys _ _ (bh e) (by simp only[M6,M3]; omega)
theorem Dq {out:List Int} {k:Nat} {x:Int} (hs : ∀ z∈out,z∈cl d.2.1) (hk:out[k]? = some x) : ∃ v∈d.2.1,v.1=x∧v.2.1=tS d.2.1 x ∧ ∀ {β:Type} (e:an) (F:an→Option β),ix d.2.1 (ol d.2.1 x) e F=F v:=by
 obtain⟨v,hv,e,hF⟩:=Lw (f9.2 (hs x (P5 hk)))
 exact⟨v,hv,e,by rw[←e,Dh h.vr hv],hF⟩
theorem Dr {out:List Int} {x:Int} (hd:out.Nodup) (hs : ∀ z∈out,z∈cl d.2.1) (hx:x∈cl d.2.1):(f8 out (tS d.2.1 x)).Nodup ∧ ∀ z∈f8 out (tS d.2.1 x),z∈cl d.2.1 :=
 ⟨mH _ _ hd,fun z hz=>((la _ _ _).1 hz).elim (hs z) (h.closed x hx z)⟩
theorem Ds : ∀(n k:Nat) (out:List Int),out.Nodup→(∀ x∈out,x∈cl d.2.1)→(cl d.2.1).length≤k+n→k≤1000→gd (k:Int) d.1 d.2.1 d.2.2.1 out=some (((me (tS d.2.1) n k out).mergeSort (fun x y=>decide (x≤y)),()),())
 | 0,k,out,hd,hs,hn,hk=>by
  have:=lP _ _ hd hs
  have hl:=uE h hd hs
  rw[jj,aq (by omega),Dp (by omega)]
  rfl
 | n+1,k,out,hd,hs,hn,hk=>by
  have hl:=uE h hd hs
  unfold me
  cases hx:out[k]? with
  | none =>
   have:out.length≤k:=an_.1 hx
   rw[jj,aq (by omega),Dp (by omega)]
   rfl
  | some x =>
   have hlt:=(N7.1 hx).1
   obtain⟨v,hv,e1,e2,hF⟩:=Dq h hs hx
   have hg:R0 out (P9 (k:Int)) 0=x:=by
    rw[V5,P7,hx]
    rfl
   have hup:=(h.up v hv).1
   have hn1:=Dr h hd hs (hs x (P5 hx))
   rw[jj,av (by omega),iH (nn _) (by omega),show((d.1,d.2.1,d.2.2.1,()):bw)=d from rfl,jo (by have:=h.vl; omega),M0,hg]
   dsimp only
   rw[hF,show eU (k:Int) v.2.1 (v.2.1.length:Int) 0 d.1 d.2.1 d.2.2.1 out=_ from yY (k:=(k:Int)) (us:=v.2.1) (by omega) v.2.1 [] out rfl (by omega),mm (n:=(k:Int)+1) (by omega) (by omega),e2]
   exact Ds n (k+1) _ hn1.1 hn1.2 (by omega) (by have:=uD h; omega)
theorem Ao {a:Int} (ha:a∈cl d.2.1):my d a=some ((lc d.2.1 a,()),()):=by
 have e:=Ds h (d.2.1.length+1) 0 [a] (by simp) (fun x hx=>by rw[P0.1 hx]; exact ha) (by unfold cl; rw[S8]; omega) (by omega)
 rw[AR]
 refine Eq.trans e ?_
 rw[←JL h ha]
 rfl
omit h in
theorem yZ {k:Int} {id:Int} {us:List Int} {sh:List bo} (hu:us.length≤1000) : ∀(ys pre out:List Int),us=pre++ys→out.length+ys.length≤1000000→fH k (pre.length:Int) d.1 d.2.1 d.2.2.1 out id us sh=gK (aq_ ar_ (k+1)) d.1 d.2.1 d.2.2.1 (f8 out ys)
 | [],pre,out,e,hb=>by
  rw[oP,aq (df e)]
  rfl
 | y :: ys,pre,out,e,hb=>by
  rw[N3] at hb
  rw[oP,av (bQ e),bG e,aV e (by omega),yX (by omega),M0,Il]
  dsimp only
  by_cases hy:y∈out
  ·rw[M2 (by simp[hy]),M5 hy]
   exact yZ hu ys _ out (bh e) (by omega)
  ·rw[M5 (by simp[hy]),M2 hy,bG e,dv (by simp only[M3]; omega)]
   exact yZ hu ys _ _ (bh e) (by simp only[M6,M3]; omega)
omit h in
theorem rR {st:List Int} (hl:d.2.1.length≤1000000) (hs:st.length≤1000000) : ∀(ys pre:List an) (acc:List Int),d.2.1=pre++ys→acc.length≤pre.length→gf (pre.length:Int) d.1 d.2.1 d.2.2.1 st acc=some ((acc++(cl ys).filter (fun x=>decide (x∈st)),()),())
 | [],pre,acc,e,hb=>by
  rw[n7,aq (df e)]
  simp[cl]
 | y :: ys,pre,acc,e,hb=>by
  have hlen:d.2.1.length=pre.length+(ys.length+1):=by rw[e]; simp
  rw[n7,av (bQ e),bG e,yX (by omega),M0,aV e (by omega)]
  dsimp only
  by_cases hy:y.1∈st
  ·rw[M5 (by simp[hy]),bG e,dv (by simp only[M3]; omega),rR hl hs ys _ _ (bh e) (by simp only[M6,M3]; omega)]
   simp[cl,hy]
  ·rw[M2 (by simp[hy]),rR hl hs ys _ _ (bh e) (by simp only[M6,M3]; omega)]
   simp[cl,hy]
theorem Dt : ∀(n k:Nat) (out:List Int),out.Nodup→(∀ x∈out,x∈cl d.2.1)→(cl d.2.1).length≤k+n→k≤1000→gK (k:Int) d.1 d.2.1 d.2.2.1 out=some (((cl d.2.1).filter (fun x=>decide (x∈me (tS d.2.1) n k out)),()),())
 | 0,k,out,hd,hs,hn,hk=>by
  have:=lP _ _ hd hs
  have hl:=uE h hd hs
  have hv:=h.vl
  rw[kb,aq (by omega)]
  exact rR (d:=d) (by omega) (by omega) d.2.1 [] [] rfl (N4 _)
 | n+1,k,out,hd,hs,hn,hk=>by
  have hl:=uE h hd hs
  have hvl:=h.vl
  unfold me
  cases hx:out[k]? with
  | none =>
   have:out.length≤k:=an_.1 hx
   rw[kb,aq (by omega)]
   exact rR (d:=d) (by omega) (by omega) d.2.1 [] [] rfl (N4 _)
  | some x =>
   have hlt:=(N7.1 hx).1
   obtain⟨v,hv,e1,e2,hF⟩:=Dq h hs hx
   have hg:R0 out (P9 (k:Int)) 0=x:=by
    rw[V5,P7,hx]
    rfl
   have hup:=(h.up v hv).1
   have hn1:=Dr h hd hs (hs x (P5 hx))
   rw[kb,av (by omega),iH (nn _) (by omega),show((d.1,d.2.1,d.2.2.1,()):bw)=d from rfl,jn (by omega),M0,hg]
   dsimp only
   rw[hF,show fH (k:Int) 0 d.1 d.2.1 d.2.2.1 out v.1 v.2.1 v.2.2.1=_ from yZ (d:=d) (k:=(k:Int)) (us:=v.2.1) (by omega) v.2.1 [] out rfl (by omega),mm (n:=(k:Int)+1) (by omega) (by omega),e2]
   exact Dt n (k+1) _ hn1.1 hn1.2 (by omega) (by have:=uD h; omega)
theorem Ap {a:Int} (ha:a∈cl d.2.1):oG d a=some ((lc d.2.1 a,()),()):=by
 have e:=Dt h (d.2.1.length+1) 0 [a] (by simp) (fun x hx=>by rw[P0.1 hx]; exact ha) (by unfold cl; rw[S8]; omega) (by omega)
 rw[Cv]
 exact e
theorem rS (a:Int):(lc d.2.1 a).length≤40:=Q3 (List.length_filter_le _ _) (uD h)
omit h in
theorem tT {x y:List Int} (hx:x.length≤1000000) (hy:y.length≤1000000) : ∀(ys pre:List Int) (o:Int),x=pre++ys→iG o (x.length:Int) (pre.length:Int) y x=some ((rQ y ys o,()),())
 | [],pre,o,e=>by
  rw[qr,aq (df e)]
  rfl
 | z :: ys,pre,o,e=>by
  have hg:R0 x (P9 (pre.length:Int)) 0=z:=by rw[e]; exact pQ
  rw[qr,av (bQ e),iI e,hg,Fd (by omega),M0,aV e (by omega)]
  dsimp only
  have el:rQ y (z :: ys) o=rQ y ys (if z∈y then z else o):=rfl
  rw[el]
  by_cases hz:z∈y
  ·rw[M5 (by simp[hz]),M5 hz]
   exact tT hx hy ys _ _ (bh e)
  ·rw[M2 (by simp[hz]),M2 hz]
   exact tT hx hy ys _ _ (bh e)
omit h in
theorem tU {x y:List Int} (hx:x.length≤1000000) (hy:y.length≤1000000) : ∀(ys pre:List Int) (o:Int),x=pre++ys→j9 o (pre.length:Int) x y=some ((rQ y ys o,()),())
 | [],pre,o,e=>by
  rw[r6,aq (df e)]
  rfl
 | z :: ys,pre,o,e=>by
  have hg:R0 x (P9 (pre.length:Int)) 0=z:=by rw[e]; exact pQ
  rw[r6,av (bQ e)]
  simp only[iI e,hg]
  rw[yX (by omega),M0,aV e (by omega)]
  dsimp only
  have el:rQ y (z :: ys) o=rQ y ys (if z∈y then z else o):=rfl
  rw[el]
  by_cases hz:z∈y
  ·rw[M5 (by simp[hz]),M5 hz]
   exact tU hx hy ys _ _ (bh e)
  ·rw[M2 (by simp[hz]),M2 hz]
   exact tU hx hy ys _ _ (bh e)
theorem KE {a b:Int} (ha:a∈cl d.2.1) (hb:b∈cl d.2.1):vO d a b=some ((rQ (lc d.2.1 b) (lc d.2.1 a) 0,()),()):=by
 have h1:=rS h a
 have h2:=rS h b
 rw[Ee,Ao h hb,M0,Ao h ha,M0]
 dsimp only
 exact tT (by omega) (by omega) _ [] 0 rfl
theorem KF {a b:Int} (ha:a∈cl d.2.1) (hb:b∈cl d.2.1):yo d a b=some ((rQ (lc d.2.1 b) (lc d.2.1 a) 0,()),()):=by
 have h1:=rS h a
 have h2:=rS h b
 rw[F1,Ap h ha,M0,Ap h hb,M0]
 dsimp only
 exact tU (by omega) (by omega) _ [] 0 rfl
end
section
variable {d:bw} (hz:Lv d)
include hz
theorem KG (a b:Int):Jf d a b=some ((GE d a b,()),()):=by
 have hl:=hz.vl
 rw[Ki,Ir hz,M0]
 unfold GE
 cases hk:mI d with
 | false=>simp
 | true =>
  have h:=Ak.1 hk
  rw[M2 (by decide),jo hl,M0]
  dsimp only
  rw[eW]
  cases ha:cC d.2.1 a with
  | false=>simp
  | true =>
   rw[M2 (by decide),jo hl,M0]
   dsimp only
   rw[eW]
   cases hb:cC d.2.1 b with
   | false=>simp
   | true =>
    rw[M2 (by decide),KE h (f9.1 ha) (f9.1 hb),M5 ⟨rfl,rfl,rfl⟩]
    rfl
theorem KH (a b:Int):Je d a b=some ((GE d a b,()),()):=by
 have hl:=hz.vl
 rw[Kh,Iu hz,M0]
 unfold GE
 cases hk:mI d with
 | false=>simp
 | true =>
  have h:=Ak.1 hk
  rw[M2 (by decide),jn hl,M0]
  dsimp only
  rw[eW]
  cases ha:cC d.2.1 a with
  | false=>simp
  | true =>
   rw[M2 (by decide),jn hl,M0]
   dsimp only
   rw[eW]
   cases hb:cC d.2.1 b with
   | false=>simp
   | true =>
    rw[M2 (by decide),KF h (f9.1 ha) (f9.1 hb),M5 ⟨rfl,rfl,rfl⟩]
    rfl
end
end Go.Proofs.YtfffplonjaigkaaGreatDoor.Abs
