/- Plain laws: what a run keeps: more fuel, sheets, places that are not set. -/
import Derived.Test.YthbkdfcmjmmpgaaGreatDoorZM12
import Derived.Test.YthbkdfcmjmmpgaaGreatDoorZM10
set_option linter.unusedVariables false
set_option linter.unusedSimpArgs false
set_option linter.unusedSectionVars false
open ByteArray renaming size_append→fl_
open Go.IntKind renaming i64→hb_,wrap→ha_
open Int renaming le_refl→cj_,tmod_lt_of_pos→gw_,toNat→ap_
open List renaming append_assoc→di_,getD→au_,length_append→ae_,length_cons→ak_,length_nil→bi_,length_singleton→ac_,length→al_,mem_append→bo_,mem_cons→bb_,mem_singleton→bh_,not_mem_nil→gp_,pairwise_cons→bq_
open Nat renaming zero_le→dd_
open Option renaming bind_some→ab_
open _root_ renaming ByteArray→aa_,if_neg→ad_,if_pos→af_
namespace Go.Proofs.YthbkdfcmjmmpgaaGreatDoor.Abs
open Go
theorem o0 {m:List aZ} {n:Nat} {i:Int} {st:ku} (h : ¬i < (m.length:Int)):cX m n i st=(0,0,st):=by
 cases n with
 | zero =>
  unfold cX
  rw[ad_ h]
 | succ n =>
  unfold cX
  rw[ad_ h]
theorem ui {m:List aZ} {n:Nat} {i:Int} {st:ku} (h:i < (m.length:Int)) (hc:(bQ (m.getD i.toNat aW.dflt) i st).1=0):cX m (n+1) i st=((cX m n (bQ (m.getD i.toNat aW.dflt) i st).2.1 (bQ (m.getD i.toNat aW.dflt) i st).2.2).1,(cX m n (bQ (m.getD i.toNat aW.dflt) i st).2.1 (bQ (m.getD i.toNat aW.dflt) i st).2.2).2.1+1,(cX m n (bQ (m.getD i.toNat aW.dflt) i st).2.1 (bQ (m.getD i.toNat aW.dflt) i st).2.2).2.2):=by
 conv=>lhs; unfold cX
 rw[af_ h,af_ hc]
theorem zk {m:List aZ} {n:Nat} {i:Int} {st:ku} (h:i < (m.length:Int)) (hc : ¬(bQ (m.getD i.toNat aW.dflt) i st).1=0):cX m (n+1) i st=((bQ (m.getD i.toNat aW.dflt) i st).1,1,(bQ (m.getD i.toNat aW.dflt) i st).2.2):=by
 conv=>lhs; unfold cX
 rw[af_ h,ad_ hc]
theorem HX (m:List aZ) : ∀(n:Nat) (i:Int) (st:ku),(cX m n i st).2.1≤n
 | 0,i,st=>by
  unfold cX
  split <;> exact Nat.le_refl _
 | n+1,i,st=>by
  by_cases h:i < (m.length:Int)
  ·by_cases hc:(bQ (m.getD i.toNat aW.dflt) i st).1=0
   ·rw[ui h hc]
    have:=HX m n (bQ (m.getD i.toNat aW.dflt) i st).2.1 (bQ (m.getD i.toNat aW.dflt) i st).2.2
    show(cX m n _ _).2.1+1≤n+1
    omega
   ·rw[zk h hc]
    show 1≤n+1
    omega
  ·rw[o0 h]
   exact dd_ _
theorem K6 (m:List aZ) : ∀(n:Nat) (i:Int) (st:ku),(cX m n i st).1=0→cX m (n+1) i st=cX m n i st
 | 0,i,st,h=>by
  by_cases hi:i < (m.length:Int)
  ·unfold cX at h
   rw[af_ hi] at h
   cases h
  ·rw[o0 hi,o0 hi]
 | n+1,i,st,h=>by
  by_cases hi:i < (m.length:Int)
  ·by_cases hc:(bQ (m.getD i.toNat aW.dflt) i st).1=0
   ·rw[ui hi hc] at h
    rw[ui hi hc,ui (n:=n) hi hc,K6 m n _ _ h]
   ·rw[zk hi hc,zk hi hc]
  ·rw[o0 hi,o0 hi]
theorem YH {s:List ae} {m:List aZ} {fuel:Int} (h0:0≤fuel) (h:(dM s m fuel).1=0):dM s m (fuel+1)=dM s m fuel:=by
 unfold dM at h ⊢
 rw[show(fuel+1).toNat=fuel.toNat+1 by omega]
 exact K6 m _ _ _ h
structure qE (st st':ku):Prop where
 lk : ∀ a∈st.2.1,a∈st'.2.1
 se : ∀ r∈st.2.2,r∈st'.2.2
 at' : ∀ q,q ∉ st'.2.2→cN q st'.1=cN q st.1
theorem qE.refl (st:ku):qE st st:=⟨fun _ h=>h,fun _ h=>h,fun _ _=>rfl⟩
theorem qE.trans {a b c:ku} (h:qE a b) (k:qE b c):qE a c:=⟨fun x hx=>k.lk x (h.lk x hx),fun x hx=>k.se x (h.se x hx),fun q hq=>(k.at' q hq).trans (h.at' q fun hx=>hq (k.se q hx))⟩
theorem wX (st:ku) (t:aa_):qE st (cT st t):=⟨fun a ha=>(k9 _ _ _).2 (.inl ha),fun _ h=>h,fun _ _=>rfl⟩
theorem Pw {st:ku} (hs:be st.1=true) (q:ah) (x:aa_):qE st (dg st q x).2:=by
 unfold dg
 split
 ·exact .refl st
 ·refine⟨fun _ h=>h,fun r hr=>(k9 _ _ _).2 (.inl hr),fun p hp => ?_⟩
  have hne:p≠q:=by
   rintro rfl
   exact hp ((k9 _ _ _).2 (.inr (by simp)))
  show cN p (jc st.1 q x)=cN p st.1
  rw[Wj (fk hs),ad_ hne]
theorem K7 {st:ku} (hs:be st.1=true) (x:aZ) (i:Int):qE st (bQ x i st).2.2:=by
 unfold bQ
 split
 ·exact Pw hs _ _
 ·split
  ·exact(wX st _).trans (Pw (st:=cT st x.2.2.1) hs _ _)
  ·split
   ·exact wX st _
   ·split
    ·exact wX st _
    ·exact wX st _
section
variable {m:List aZ} (hm:jg m=true)
include hm
theorem K8 : ∀(n:Nat) (i:Int) (st:ku),qD n st→0≤i→qE st (cX m n i st).2.2∧be (cX m n i st).2.2.1=true
 | 0,i,st,hI,h0=>by
  unfold cX
  split
  ·exact⟨.refl st,hI.sh⟩
  ·exact⟨.refl st,hI.sh⟩
 | n+1,i,st,hI,h0=>by
  by_cases hi:i < (m.length:Int)
  ·obtain⟨q1,q2,q3⟩:=wW hm hI h0 hi
   by_cases hc:(bQ (m.getD i.toNat aW.dflt) i st).1=0
   ·obtain⟨k1,k2⟩:=K8 n _ _ q1 q2
    rw[ui hi hc]
    exact⟨(K7 hI.sh _ _).trans k1,k2⟩
   ·rw[zk hi hc]
    exact⟨K7 hI.sh _ _,q1.sh⟩
  ·rw[o0 hi]
   exact⟨.refl st,hI.sh⟩
end
theorem YI {s:List ae} {m:List aZ} {fuel:Int} (h:mG s m fuel=0):qE (s,[],[]) (dM s m fuel).2.2∧be (dM s m fuel).2.2.1=true:=by
 obtain⟨hs,hm,hf0,hf1⟩:=sS h
 exact K8 hm fuel.toNat 0 (s,[],[]) (qD.first hs (by omega)) (cj_ _)
section
variable {s t:List ae} (hs:be s=true) (ht:be t=true) {q:ah} (hag : ∀ r,r≠q→cN r s=cN r t)
include hs ht hag
end
section
variable {q:ah} {B:List ah} (hb:B.length≤110)
include hb
variable {m:List aZ} (hm:jg m=true) (hB : ∀ x∈m,x.2.1∈B)
include hm hB
end
def dd (b:ah):List ah→List ah
 | []=>[]
 | y :: ys=>if y=b then dd y ys else y :: dd y ys
def abn:List ah→List ah
 | []=>[]
 | c :: l=>c :: dd c l
theorem WI {q:ah} : ∀ {l:List ah} {c:ah},q∈c :: dd c l↔q∈c :: l
 | [],c=>Iff.rfl
 | y :: ys,c=>by
  have ih:=WI (q:=q) (l:=ys) (c:=y)
  unfold dd
  by_cases h:y=c
  ·rw[af_ h]
   subst h
   rw[ih,bb_,bb_,bb_]
   constructor
   ·rintro(h | h)
    ·exact .inl h
    ·exact .inr (.inr h)
   ·rintro(h | h | h)
    ·exact .inl h
    ·exact .inl h
    ·exact .inr h
  ·rw[ad_ h,bb_,ih,bb_ (a:=q) (b:=c)]
theorem WJ : ∀ {l:List ah} {c:ah},((c :: l).Pairwise fun a b=>bM b a=false)→FF (c :: dd c l)
 | [],c,_=>List.pairwise_singleton _ _
 | y :: ys,c,h=>by
  have h1:=bq_.1 h
  have ih:=WJ (l:=ys) (c:=y) h1.2
  unfold dd
  by_cases e:y=c
  ·rw[af_ e]
   subst e
   exact ih
  ·rw[ad_ e]
   have hcy:bM c y=true:=by
    rcases oa c y with k | k | k
    ·exact k
    ·exact absurd k.symm e
    ·rw[h1.1 y (by simp)] at k
     cases k
   refine bq_.2 ⟨fun d hd => ?_,ih⟩
   rcases bb_.1 hd with rfl | hd
   ·exact hcy
   ·exact gm hcy ((bq_.1 ih).1 d hd)
theorem abo {a b:ah}:(bk ak a b=false)=(a≠b):=by
 rw[←Bool.not_eq_true]
 exact congrArg Not im
theorem AU : ∀(ys kept junk:List ah) (b:ah) (base x2:Nat),base+x2=kept.length+junk.length+1→1≤x2→kept.length+junk.length+ys.length+1≤1000000000→ee (kept.length:Int) (base:Int) (x2:Int) (kept++junk++b :: ys)=some ((kept++dd b ys,()),())
 | [],kept,junk,b,base,x2,hb,h1,hl=>by
  have hlen:((kept++junk++[b]).length:Int)=(base:Int)+x2:=by simp only[ae_,ac_]; omega
  rw[lp,aD (by omega),af_ (by omega),af_ (by simp only[ae_,ac_]; omega),GS (by omega) (by simp only[ae_,List.length_take,List.length_replicate,ac_,Int.toNat_natCast]; omega)]
  simp[dd]
 | y :: ys,kept,junk,b,base,x2,hb,h1,hl=>by
  rw[ak_] at hl
  have hlen:((kept++junk++b :: y :: ys).length:Int)=(base:Int)+x2+1+ys.length:=by simp only[ae_,ak_]; omega
  have g1:au_ (kept++junk++b :: y :: ys) (ap_ ((base:Int)+x2)) ak.dflt=y:=by
   have:(base:Int)+(x2:Int)=((kept++junk++[b]).length:Int):=by simp only[ae_,ac_]; omega
   rw[this,show kept++junk++b :: y :: ys=(kept++junk++[b])++y :: ys by simp]
   exact eX
  have w1:IntKind.i64.wrap ((x2:Int) - 1)=(x2:Int) - 1:=wr (by omega) (by omega)
  have w2:IntKind.i64.wrap ((x2:Int)+1)=((x2+1:Nat):Int):=by rw[wr (by omega) (by omega)]; omega
  have g2:au_ (kept++junk++b :: y :: ys) (ap_ ((base:Int)+((x2:Int) - 1))) ak.dflt=b:=by
   have:(base:Int)+((x2:Int) - 1)=((kept++junk).length:Int):=by simp only[ae_]; omega
   rw[this]
   exact eX
  rw[lp,aI (by omega),af_ (by omega),af_ (by omega),w1,af_ (by omega),af_ (by omega),g1,g2]
  unfold dd
  by_cases e:y=b
  ·rw[af_ e,im.mpr e,ad_ (by decide),w2]
   have ih:=AU ys kept (junk++[b]) y base (x2+1) (by simp only[ae_,ac_]; omega) (by omega) (by simp only[ae_,ac_]; omega)
   rw[show kept++(junk++[b])++y :: ys=kept++junk++b :: y :: ys by simp] at ih
   exact ih
  ·rw[ad_ e,abo.mpr e,af_ (by rfl),af_ (by omega),af_ (by omega),bI (by omega) (by simp only[ae_,ak_]; omega),w2,wr (by omega) (by omega)]
   obtain⟨z,zs,hz⟩ : ∃ z zs,junk++[b]=z :: zs:=by
    cases junk with
    | nil=>exact⟨b,[],rfl⟩
    | cons z zs=>exact⟨z,zs++[b],rfl⟩
   have hzl:zs.length=junk.length:=by
    have:=congrArg al_ hz
    simp only[ae_,ak_,bi_] at this
    omega
   have ih:=AU ys (kept++[y]) zs y base (x2+1) (by simp only[ae_,ac_]; omega) (by omega) (by simp only[ae_,ac_]; omega)
   have e1:List.set (kept++junk++b :: y :: ys) (ap_ (kept.length:Int)) y=kept++[y]++zs++y :: ys:=by
    have:kept++junk++b :: y :: ys=kept++z :: (zs++y :: ys):=by
     rw[show kept++junk++b :: y :: ys=kept++((junk++[b])++y :: ys) by simp,hz]
     simp
    rw[this,UX]
    simp
   rw[e1]
   have e2:((kept++[y]).length:Int)=(kept.length:Int)+1:=by simp
   rw[e2] at ih
   rw[ih]
   simp
theorem HY : ∀(ys pre:List ah) (b:ah),pre.length+ys.length+1≤1000000000→fL ((pre.length:Int)+1) (pre++b :: ys)=some ((pre++b :: dd b ys,()),())
 | [],pre,b,hl=>by
  rw[ll,aD (by simp only[ae_,ac_]; omega)]
  rfl
 | y :: ys,pre,b,hl=>by
  rw[ak_] at hl
  have g1:au_ (pre++b :: y :: ys) (ap_ ((pre.length:Int)+1)) ak.dflt=y:=by
   have:(pre.length:Int)+1=((pre++[b]).length:Int):=by simp
   rw[this,show pre++b :: y :: ys=(pre++[b])++y :: ys by simp]
   exact eX
  have w1:IntKind.i64.wrap ((pre.length:Int)+1 - 1)=(pre.length:Int):=by rw[wr (by omega) (by omega)]; omega
  have w2:IntKind.i64.wrap ((pre.length:Int)+1+1)=(pre.length:Int)+1+1:=wr (by omega) (by omega)
  rw[ll,aI (by simp only[ae_,ak_]; omega),bI (by omega) (by simp only[ae_,ak_]; omega),w1,gA (xs:=pre++b :: y :: ys) rfl,g1,eX]
  unfold dd
  by_cases e:y=b
  ·rw[af_ e,im.mpr e,af_ rfl,af_ (by omega),af_ (by simp only[ae_,ak_]; omega)]
   have:=AU ys (pre++[b]) [] y (pre.length+1) 1 (by simp) (by omega) (by simp only[ae_,ac_,bi_]; omega)
   simp only[List.append_nil,di_,List.singleton_append,ae_,ac_] at this
   exact this
  ·rw[ad_ e,abo.mpr e,ad_ (by decide),w2]
   have ih:=HY ys (pre++[b]) y (by simp only[ae_,ac_]; omega)
   simp only[di_,List.singleton_append,ae_,ac_] at ih
   exact ih
theorem Uh {l:List ah} (hl:l.length≤1000000000):kS l=some ((abn l,()),()):=by
 rw[vK]
 cases l with
 | nil=>rfl
 | cons c l =>
  cases l with
  | nil=>rfl
  | cons d l =>
   rw[aD (by simp only[ak_]; omega)]
   exact HY (d :: l) [] c (by simp only[bi_,ak_] at hl ⊢; omega)
theorem YJ {s:List ah} (hl:s.length≤1000000000):ep s=some ((),(dC (α:=ak.den) bM s,())):=by
 rw[lW]
 unfold gX
 simp only[iB?,dite_true,ab_,if_true]
 exact af_ (by omega)
theorem Ui:Sort.SWO (α:=ak.den) bM:=T6
theorem Uj (l:List ah):abn (dC (α:=ak.den) bM l)=tf l:=by
 have hp:=rQ Ui l
 have hs:=AY Ui l
 refine Yj ?_ (O3 l) fun q => ?_
 ·cases hq:dC (α:=ak.den) bM l with
  | nil=>exact List.Pairwise.nil
  | cons c m =>
   rw[hq] at hs
   exact WJ hs
 ·rw[FI,←hp.mem_iff]
  cases hq:dC (α:=ak.den) bM l with
  | nil=>exact Iff.rfl
  | cons c m=>exact WI
section
variable {ls:List (List ae)} (hls:ls.length≤10)
include hls
theorem K9 {s:List ae} {i:Int} (hs:s.length≤2000000) : ∀(ys pre:List ae) (acc:List ah),s=pre++ys→acc.length+ys.length≤100000000→tK ls (ls.length:Int) i s (s.length:Int) (pre.length:Int) acc=ql ls (ls.length:Int) (ha_ hb_ (i+1)) (acc++gE ys)
 | [],pre,acc,h,ha=>by
  rw[Bf,aD (bj h)]
  simp[gE]
 | y :: ys,pre,acc,h,ha=>by
  rw[ak_] at ha
  rw[Bf,aI (bA h),bD h,bg (by simp only[ac_]; omega),aK h (by omega),K9 hs ys _ _ (aB h) (by simp only[ae_,ac_]; omega)]
  simp[gE]
theorem HZ (hs : ∀ s∈ls,s.length≤2000000) : ∀(ys pre:List (List ae)) (acc:List ah),ls=pre++ys→acc.length≤2000000*pre.length→ql ls (ls.length:Int) (pre.length:Int) acc=some ((tf (acc++ys.flatMap gE),()),())
 | [],pre,acc,h,ha=>by
  have hp:pre.length≤10:=by rw[h] at hls; simpa using hls
  rw[Bc,aD (bj h),YJ (by omega),ab_]
  have hl:=(rQ Ui acc).length_eq
  rw[Uh (by rw[hl]; omega),ab_,Uj]
  simp
 | y :: ys,pre,acc,h,ha=>by
  have hp:pre.length < 10:=by rw[h] at hls; simp only[ae_,ak_] at hls; omega
  have hy:=hs y (by rw[h]; simp)
  have e:=K9 hls (i:=(pre.length:Int)) hy y [] acc rfl (by omega)
  rw[Bc,aI (bA h),bD h]
  refine e.trans ?_
  rw[aK h (by omega),HZ hs ys _ _ (aB h) (by simp only[ae_,ac_,gE,List.length_map]; omega)]
  simp
theorem Uk (hs : ∀ s∈ls,s.length≤2000000):It ls=some ((tf (ls.flatMap gE),()),()):=by
 rw[Tu]
 have:=HZ hls hs ls [] [] rfl (by simp)
 simpa using this
end
section
variable {a b:List ae} (ha:a.length≤2000000) (hb:b.length≤2000000)
include ha hb
theorem AV {P:List ah} (hP:P.length≤10000000) : ∀(ys pre:List ah) (acc:List db),P=pre++ys→acc.length+ys.length≤100000000→u3 a b (P.length:Int) (pre.length:Int) acc P=some ((acc++(ys.map (Y4 a b)).filter (fun c => !decide (c.2.1=c.2.2.1)),()),())
 | [],pre,acc,h,hc=>by
  rw[Er,aD (bj h)]
  simp
 | y :: ys,pre,acc,h,hc=>by
  rw[ak_] at hc
  have hg:au_ P (ap_ (pre.length:Int)) ak.dflt=y:=by rw[h]; exact eX
  rw[Er,aI (bA h),gA h,hg,C6 (by omega),ab_,C6 (by omega),ab_]
  dsimp only
  rw[eqD,aK h (by omega)]
  by_cases e:cN y a=cN y b
  ·rw[decide_eq_true e,ad_ (by decide),AV hP ys _ _ (aB h) (by omega)]
   simp[Y4,e]
  ·rw[decide_eq_false e,af_ (by rfl),bg (by simp only[ac_]; omega),AV hP ys _ _ (aB h) (by simp only[ae_,ac_]; omega)]
   simp[Y4,e]
theorem YK:SC a b=some ((O4 a b,()),()):=by
 rw[XN,Uk (by simp) (by intro s hs; simp only[bb_,gp_,or_false] at hs; rcases hs with rfl | rfl <;> assumption),ab_]
 have hP:=FJ ([a,b].flatMap gE)
 have hl:([a,b].flatMap gE).length=a.length+b.length:=by simp[gE]
 dsimp only
 have:=AV ha hb (P:=tf ([a,b].flatMap gE)) (by omega) (tf ([a,b].flatMap gE)) [] [] rfl (by simp only[bi_]; omega)
 refine this.trans ?_
 unfold O4
 simp
end
noncomputable def R8 (a b:List ae):List db:=if be a=true∧be b=true then O4 a b else []
section
variable {a b:List ae} (ha:a.length≤2000000) (hb:b.length≤2000000) (hsa : ∀ c∈a,c.2.1.size≤9223372036854775807) (hsb : ∀ c∈b,c.2.1.size≤9223372036854775807)
include ha hb hsa hsb
theorem Ul:Iu a b=some ((R8 a b,()),()):=by
 rw[Tv,sc hsa (by omega),ab_]
 dsimp only
 unfold R8
 cases h1:be a with
 | false=>simp
 | true =>
  rw[ad_ (by decide),sc hsb (by omega),ab_]
  dsimp only
  cases h2:be b with
  | false=>simp
  | true =>
   rw[ad_ (by decide),YK ha hb]
   simp
end
section
variable {o x y:List ae} (ho:o.length≤2000000) (hx:x.length≤2000000) (hy:y.length≤2000000)
include ho hx hy
end
section
variable {o x y:List ae} (ho:o.length≤2000000) (hx:x.length≤2000000) (hy:y.length≤2000000) (hso : ∀ c∈o,c.2.1.size≤9223372036854775807) (hsx : ∀ c∈x,c.2.1.size≤9223372036854775807) (hsy : ∀ c∈y,c.2.1.size≤9223372036854775807)
include ho hx hy hso hsx hsy
end
section
variable {c:List Int} (hc:KP c)
include hc
theorem Px {i:Int} (h2:0≤i) (h3:i≤(c.length:Int)):Ok (fun z=>(0≤z.1.1∧z.1.1≤255)∧Rd c z.2.1) (tz c i):=by
 have:=ue hc (s:=(c,i,())) ⟨rfl,h2,h3⟩
 rw[yu] at this
 rw[Le]
 exact this
theorem WK {n i:Int} (h2:0≤i) (h3:i≤(c.length:Int)) (hn:1≤n):Ok (fun z=>(0≤z.1.1∧z.1.1 < n)∧Rd c z.2.1) (xf n c i):=by
 rw[IB]
 refine Ok.ite (fun _=>Ok.one ⟨⟨cj_ _,by show(0:Int) < n; omega⟩,rfl,h2,h3⟩) fun _=>Ok.ite (fun _ => ?_) fun _ => ?_
 ·refine Ok.bnd (Px hc h2 h3) fun z hz=>Ok.nz (by omega) (Ok.one ⟨⟨Int.tmod_nonneg _ hz.1.1,gw_ _ (by omega)⟩,hz.2⟩)
 ·refine Ok.bnd (Px hc h2 h3) fun z hz=>Ok.bnd (ue hc hz.2) fun y hy => ?_
  have h1:=hz.1
  have h2:=hy.1
  rw[wr (n:=z.1.1*256) (by omega) (by omega),wr (by omega) (by omega)]
  exact Ok.nz (by omega) (Ok.one ⟨⟨Int.tmod_nonneg _ (by omega),gw_ _ (by omega)⟩,hy.2⟩)
end
def WL (l:List db):Prop:=l.length≤240 ∧ ∀ c∈l,c.2.2.1.size≤6401
theorem WL.set {l:List db} (h:WL l) {i:Nat} {x:db} (hx:x.2.2.1.size≤6401):WL (l.set i x):=by
 refine⟨by rw[List.length_set]; exact h.1,fun c hc => ?_⟩
 rcases List.mem_or_eq_of_mem_set hc with k | rfl
 ·exact h.2 c k
 ·exact hx
theorem WL.at {l:List db} (h:WL l) {i:Nat}:(l.getD i (mP.dflt)).2.2.1.size≤6401:=by
 rw[List.getD_eq_getElem?_getD]
 by_cases e:i < l.length
 ·rw[List.getElem?_eq_getElem e]; exact h.2 _ (List.getElem_mem e)
 ·rw[List.getElem?_eq_none (by omega)]; decide
def vI (m:List aZ):Prop:=m.length≤30 ∧ ∀ x∈m,x.2.2.1.size≤6410
theorem vI.sz {m:List aZ} (h:vI m) : ∀ x∈m,x.2.2.1.size≤1000000000:=fun x hx=>Nat.le_trans (h.2 x hx) (by decide)
theorem abO {t:aa_} (ht:t.size≤1000000) (h:(eK ((⟨#[61]⟩:aa_)++t)).2=true):1≤(eK ((⟨#[61]⟩:aa_)++t)).1.size:=by
 have hb:=Jc (w:=61 :: lb t) (by rw[ak_,iA]; omega)
 rw[←abi] at hb
 have h4:(oX (61 :: lb t)).2=true:=by
  rw[hb] at h
  exact h
 rw[hb]
 show 1≤(ba (oX (61 :: lb t)).1).size
 rw[aQ]
 have hp:((61 :: lb t).all vy && decide ((61 :: lb t).length≤200))=true:=by
  cases hp:((61 :: lb t).all vy && decide ((61 :: lb t).length≤200)) with
  | true=>rfl
  | false =>
   have e:oX (61 :: lb t)=([],false):=by
    unfold oX
    rw[ad_ (by simp),hp,af_ rfl]
   rw[e] at h4
   cases h4
 have e:=Jd (by simp) hp
 rw[af_ (by rfl)] at e
 dsimp only at e
 split at e
 ·rw[e]
  simp
 ·rw[e] at h4
  cases h4
section
variable {c:List Int} (hc:KP c)
include hc
theorem abP {β:Type} {Q:β→Prop} {x:aa_} {f:((aa_×(Bool×Unit))×Unit)→Option β} (hx:x.size≤6410) (k : ∀ z,z.1.1.size≤200→Ok Q (f z)):Ok Q ((dR x).bind f) :=
 Ok.bnd (P:=fun z=>z.1.1.size≤200) ⟨_,(mC (x:=x) (by omega)).2.1,(mC (x:=x) (by omega)).2.2⟩ k
theorem aag {n:Nat} (hn:n≤3) {s:aJ} (h:Rd c s):Ok (fun z=>z.1.1.size≤6410∧Rd c z.2.1) (eM (n:Int) s):=by
 rw[Lt]
 refine Yo hc n rfl hn h fun z hz hr => ?_
 have h1:(⟨#[61]⟩:aa_).size=1:=rfl
 have hsz:((⟨#[61]⟩:aa_)++z.1.1).size≤9223372036854775807:=by rw[fl_,h1]; omega
 have hinp:=mC hsz
 rw[ga (by rw[h1]; omega),hinp.2.1,ab_]
 dsimp only
 cases hb:(eK ((⟨#[61]⟩:aa_)++z.1.1)).2 with
 | false=>exact Ok.one ⟨by show(1:Nat)≤6410; decide,hr⟩
 | true =>
  have h61:=abO (by omega) hb
  have h200:=hinp.2.2
  rw[ad_ (by decide),Vh (by decide) (by omega)]
  refine Ok.one ⟨?_,hr⟩
  show(ByteArray.extract _ _ _).size≤6410
  rw[ByteArray.size_extract]
  omega
theorem abp {β:Type} {Q:β→Prop} {s:aJ} {f:(aa_×Unit)×aJ×Unit→Option β} (h:Rd c s) (k : ∀ z,z.1.1.size≤6410→Rd c z.2.1→Ok Q (f z)):Ok Q ((eM 1 s).bind f):=Ok.bnd (aag hc (n:=1) (by decide) h) fun z hz=>k z hz.1 hz.2
set_option maxHeartbeats 4000000 in
theorem aah {s:aJ} (h:Rd c s):Ok (fun z=>z.1.1.2.2.1.size≤6410∧Rd c z.2.1) (kO s):=by
 rw[Lu]
 repeat' first
  | refine ru hc (by assumption) (by decide) fun _ _ _ _ => ?_
  | refine AF hc (by assumption) fun _ _ _ => ?_
  | refine abp hc (by assumption) fun _ _ _ => ?_
  | refine Jh hc (by assumption) fun _ _ _ => ?_
  | refine abP hc (by omega) fun _ _ => ?_
  | refine HO (by omega) (by omega) fun _ _ => ?_
  | (refine Ok.cats (by simp only[RD]; omega) ?_; try dsimp only)
  | refine Ok.ite (fun _ => ?_) fun _ => ?_
  | refine Ok.one ⟨?_,by assumption⟩
 all_goals (try dsimp only)
 all_goals (try simp only[size_append,RD,We])
 all_goals omega
theorem WM {β:Type} {Q:β→Prop} {s:aJ} {f:(aZ×Unit)×aJ×Unit→Option β} (h:Rd c s) (k : ∀ z,z.1.1.2.2.1.size≤6410→Rd c z.2.1→Ok Q (f z)):Ok Q ((kO s).bind f):=Ok.bnd (aah hc h) fun z hz=>k z hz.1 hz.2
theorem Zb {β:Type} {Q:β→Prop} {m:List aZ} {f:((Bool×Unit)×Unit)→Option β} (hm:vI m) (k:Ok Q (f ((jg m,()),()))):Ok Q ((jN m).bind f):=by
 have h:=hm.1
 rw[EI (by omega) hm.sz]
 exact k
theorem vI.snoc {m:List aZ} {x:aZ} (h:vI m) (hl:m.length≤29) (hx:x.2.2.1.size≤6410):vI (m++[x]):=⟨by rw[ae_,ac_]; omega,fun y hy=>by
 rcases bo_.1 hy with hy | hy
 ·exact h.2 y hy
 ·rw[bh_.1 hy]
  exact hx⟩
theorem La {m:List aZ} (hm:vI m) (hl:m.length≤20) {s:aJ} (h:Rd c s):Ok (fun z=>vI z.1.1∧Rd c z.2.1) ((jN m).bind fun z3=>(if(!z3.1.1)=true then((bZ 20 s).bind fun z4=>(if(!z4.1.1)=true then((bH z4.2.1).bind fun z5=>((bH z5.2.1).bind fun z6=>(app m ([(1,z5.1.1,(⟨#[49]⟩:aa_),0,()),(1,z6.1.1,(⟨#[65,49,43,66,50]⟩:aa_),0,())]:(List aZ)) 48 fun y3=>(some ((y3,()),(z6.2.1,())))))) else(some ((m,()),(z4.2.1,()))))) else(some ((m,()),(s,()))))):=by
 refine Zb hc hm (Ok.ite (fun _ => ?_) fun _=>Ok.one ⟨hm,h⟩)
 refine zg hc h (by decide) fun z4 r4=>Ok.ite (fun _ => ?_) fun _=>Ok.one ⟨hm,r4⟩
 refine AF hc r4 fun z5 _ r5=>AF hc r5 fun z6 _ r6=>Ok.app (by simp only[ak_,bi_]; omega) (Ok.one ⟨?_,r6⟩)
 have:=((hm.snoc hc (x:=(1,z5.1.1,(⟨#[49]⟩:aa_),0,())) (by omega) (by show(1:Nat)≤6410; decide)).snoc hc (x:=(1,z6.1.1,(⟨#[65,49,43,66,50]⟩:aa_),0,())) (by rw[ae_,ac_]; omega) (by show(5:Nat)≤6410; decide))
 rw[di_] at this
 exact this
theorem tW : ∀(n:Nat) {s:aJ} {m:List aZ},vI m→n+m.length≤20→Rd c s→Ok (fun z=>vI z.1.1∧Rd c z.2.1) (d8 (n:Int) s m)∧Ok (fun z=>vI z.1.1∧Rd c z.2.1) (jC (n:Int) s m)
 | 0,s,m,hm,hl,h=>by
  rw[tt,sE,aD (by decide)]
  exact⟨La hc hm (by omega) h,La hc hm (by omega) h⟩
 | n+1,s,m,hm,hl,h=>by
  have hw:IntKind.i64.wrap (((n+1:Nat):Int) - 1)=(n:Int):=by rw[wr (by omega) (by omega)]; omega
  have main:Ok (fun z=>vI z.1.1∧Rd c z.2.1) (app ([]:(List aZ)) m 48 fun y1=>((kO s).bind fun z1=>(app y1 ([z1.1.1]:(List aZ)) 48 fun y2=>((jN y2).bind fun z2=>(if z2.1.1=true then(d8 (ha_ hb_ (((n+1:Nat):Int) - 1)) z1.2.1 y2) else(inb y2 (ha_ hb_ ((al_ y2:Int) - 1)) (if((au_ y2 (ap_ (ha_ hb_ ((al_ y2:Int) - 1))) (aW.dflt)).1 == 3)=true then(d8 (ha_ hb_ (((n+1:Nat):Int) - 1)) z1.2.1 y2) else(jC (ha_ hb_ (((n+1:Nat):Int) - 1)) z1.2.1 m)))))))):=by
   rw[bg (by simp only[bi_]; omega),List.nil_append]
   refine WM hc h fun z1 s1 r1=>Ok.app (by simp only[ac_]; omega) ?_
   have hm2:=hm.snoc hc (x:=z1.1.1) (by omega) s1
   have hl2:n+(m++[z1.1.1]).length≤20:=by rw[ae_,ac_]; omega
   rw[hw]
   refine Zb hc hm2 (Ok.ite (fun _=>(tW n hm2 hl2 r1).1) fun _ => ?_)
   have hw2:IntKind.i64.wrap (((m++[z1.1.1]).length:Int) - 1)=(m.length:Int):=by
    rw[wr (by omega) (by omega),ae_,ac_]
    omega
   rw[hw2]
   refine Ok.inb ⟨by omega,by rw[ae_,ac_]; omega⟩ (Ok.ite (fun _=>(tW n hm2 hl2 r1).1) fun _=>(tW n hm (by omega) r1).2)
  rw[tt,sE,aI (by omega)]
  exact⟨main,main⟩
theorem YL {s:aJ} (h:Rd c s):Ok (fun z=>vI z.1.1∧Rd c z.2.1) (rV s):=by
 rw[IJ]
 refine zg hc h (by decide) fun z1 r1=>Ok.ite (fun _ => ?_) fun _ => ?_
 ·refine ru hc r1 (by decide) fun z2 h0 h1 r2=>HO (by omega) (by omega) fun z3 s3=>Ok.cats (by simp only[RD]; omega) (WM hc r2 fun z4 s4 r4=>Ok.one ⟨⟨by show(4:Nat)≤30; decide,fun x hx => ?_⟩,r4⟩)
  simp only[bb_,gp_,or_false] at hx
  rcases hx with rfl | rfl | rfl | rfl
  ·show(5 - 1:Nat)≤6410
   decide
  ·show(5:Nat)≤6410
   decide
  ·show((⟨#[65,49,60]⟩:aa_)++z3.1.1).size≤6410
   rw[fl_,RD]
   omega
  ·exact s4
 ·refine ru hc r1 (by decide) fun z5 h0 h1 r5 => ?_
  rw[show z5.1.1=(z5.1.1.toNat:Int) by omega]
  exact(tW hc _ ⟨dd_ _,fun x hx=>by cases hx⟩ (by simp only[bi_]; omega) r5).1
theorem aai {β:Type} {Q:β→Prop} {s:aJ} {f:(List aZ×Unit)×aJ×Unit→Option β} (h:Rd c s) (k : ∀ z,vI z.1.1→Rd c z.2.1→Ok Q (f z)):Ok Q ((rV s).bind f):=Ok.bnd (YL hc h) fun z hz=>k z hz.1 hz.2
theorem aaj {s:aJ} (h:Rd c s):Ok (fun z=>Rd c z.2.1) (zR s):=by
 rw[Lv]
 refine zg hc h (by decide) fun z1 r1=>Ok.ite (fun _ => ?_) fun _ => ?_
 ·exact Ok.bnd (Wc hc r1 (by decide)) fun z hz=>Ok.one hz
 ·exact ru hc r1 (by decide) fun z h0 h1 r=>Ok.one r
theorem Dg : ∀(n:Nat) {s:aJ} {out:List ae},n≤1000→Rd c s→T8 out→Ok (fun z=>RN z.1.1∧Rd c z.2.1∧z.1.1.length≤out.length+n+1) (kj (n:Int) s out)
 | 0,s,out,_,h,ho=>by
  rw[tr,aD (by decide)]
  refine zg hc h (by decide) fun z hz=>Ok.ite (fun _ => ?_) fun _=>Ok.one ⟨ho.up,hz,by show out.length≤_; omega⟩
  refine AF hc hz fun y _ hy=>Jh hc hy fun x hx hz' => ?_
  have hl:=ho.1
  refine Ok.app (by simp only[ac_]; omega) (Ok.one ⟨⟨by simp only[ae_,ac_]; omega,fun d hd => ?_⟩,hz',by simp only[ae_,ac_]; omega⟩)
  rcases bo_.1 hd with hd | hd
  ·exact ho.2 d hd
  ·rw[bh_.1 hd]
   exact hx
 | n+1,s,out,hn,h,ho=>by
  have hw:IntKind.i64.wrap (((n+1:Nat):Int) - 1)=(n:Int):=by rw[wr (by omega) (by omega)]; omega
  have hl:=ho.1
  rw[tr,aI (by omega),hw]
  refine AF hc h fun y _ hy=>Jh hc hy fun x hx hz => ?_
  have hen:(O6 out y.1.1 x.1.1).1.length≤out.length+1:=by
   unfold O6
   split
   ·exact ZX _ _ _
   ·exact dd_ _
  have hsm:=Wm (s:=out) (r:=y.1.1) (x:=x.1.1) ho.2
  rw[Wl (by omega) (ho.up).sz (by omega),ab_]
  refine Ok.ite (fun _ => ?_) fun _ => ?_
  ·exact Ok.mono (Dg n (by omega) hz hsm) fun a ha=>⟨ha.1,ha.2.1,by
    have:=ha.2.2
    dsimp only at this
    omega⟩
  ·exact Ok.mono (Dg n (by omega) hz ho) fun a ha=>⟨ha.1,ha.2.1,by
    have:=ha.2.2
    omega⟩
theorem WN {n:Nat} {i:Int} (hn:n≤900) (h2:0≤i) (h3:i≤(c.length:Int)):Ok (fun z=>RN z.1.1∧Rd c z.2.1∧z.1.1.length≤n+1) (xg (n:Int) c i):=by
 rw[IG,wr (by omega) (by omega)]
 refine Ok.bnd (WK hc h2 h3 (by omega)) fun z hz => ?_
 have h4:=hz.1
 rw[show z.1.1=(z.1.1.toNat:Int) by omega]
 exact Ok.mono (Dg hc _ (by omega) hz.2 ⟨dd_ _,fun c hc=>by cases hc⟩) fun a ha=>⟨ha.1,ha.2.1,by
  have:=ha.2.2
  rw[bi_] at this
  omega⟩
theorem FP:Ok (fun z=>(RN z.1.1∧z.1.1.length≤7)∧vI z.1.2.1) (sY c):=by
 rw[Fg,ST,ab_]
 refine Ok.bnd (WN hc (n:=6) (by decide) (cj_ _) (by show(0:Int)≤(c.length:Int); omega)) fun z2 h2=>aai hc h2.2.1 fun z3 h3 r3=>Ok.bnd (aaj hc r3) fun z4 h4=>Ok.one ⟨⟨h2.1,h2.2.2⟩,h3⟩
end
end Go.Proofs.YthbkdfcmjmmpgaaGreatDoor.Abs
