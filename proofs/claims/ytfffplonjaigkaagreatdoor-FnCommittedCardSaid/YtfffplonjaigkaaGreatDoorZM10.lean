/- Plain laws of versions: the program's steps: own copy, branch, commit, what is committed. -/
import Derived.Test.YtfffplonjaigkaaGreatDoorZM9
set_option linter.unusedVariables false
set_option linter.unusedSimpArgs false
set_option linter.unusedSectionVars false
open Bool renaming and_eq_true→S8
open ByteArray renaming size_append→W5
open Int renaming toNat→V1
open List renaming append_assoc→X2,append_nil→W9,find?_eq_none→da_,flatMap_cons→ck_,getD→V5,length_append→S5,length_cons→T3,length_nil→V3,map_append→bq_,mem_append→W1,mem_cons→U7,mem_flatMap→bt_,mem_map→Z1,mem_singleton→U4,pairwise_cons→V7
open Option renaming bind_some→S1
open _root_ renaming ByteArray→S0,decide_eq_false→U9,decide_eq_true_eq→T0,decide_eq_true→U2,if_neg→S4,if_pos→S6
namespace Go.Proofs.YtfffplonjaigkaaGreatDoor.Abs
open Go
theorem Lv {l:List Int} (h:l.length≤1000000000):fa l=some ((l,()),()):=by
 rw[mw]
 unfold bR
 simp only[ef?,dite_true,S1]
 exact S6 (by omega)
theorem sF {l:List ac} (h:l.length≤1000000000):fh l=some ((l,()),()):=by
 rw[vb]
 unfold bR
 simp only[ef?,dite_true,S1]
 exact S6 (by omega)
theorem Lw {l:List ag} (h:l.length≤1000000000):iq l=some ((l,()),()):=by
 rw[rd]
 unfold bR
 simp only[ef?,dite_true,S1]
 exact S6 (by omega)
theorem Ny {l:List ah} (h:l.length≤1000000000):i6 l=some ((l,()),()):=by
 rw[sj]
 unfold bR
 simp only[ef?,dite_true,S1]
 exact S6 (by omega)
theorem EA {α β:Type} {vs pre ys:List α} {y d:α} {f:α→α} {k:List α→β} (h:vs=pre++y :: ys) (hf:f y=y):uv d vs (pre.length:Int) f k=k vs:=by
 subst h
 rw[Dg,hf]
theorem HG {vs f:List ag} {a c:Int} {bs e:List ah} (hl:vs.length≤1000000000) (hu : ∀ v∈vs,v.2.1.length≤1000000000∧v.2.2.1.length≤1000000000) : ∀(ys pre:List ag),vs=pre++ys→nJ (vs.length:Int) (pre.length:Int) a c vs bs f e=some (((a,vs,bs,()),()),())
 | [],pre,h=>by rw[tJ,ax (bQ h)]
 | y :: ys,pre,h=>by
  obtain⟨k1,k2⟩:=hu y (by rw[h]; simp)
  have hg:V5 vs (V1 (pre.length:Int)) an.dflt=y:=by rw[h]; exact jO
  rw[tJ,aC (bq h),fN h,hg,Lv k1,S1,sF k2,S1,fN h,EA h (by rfl),fN h,EA h (by rfl),aL h (by omega)]
  exact HG hl hu ys _ (aM h)
theorem Qh {d:aO} (hz:q7 d):zO d=some ((d,()),()):=by
 rw[Iw,Ny hz.bl,S1,Lw hz.vl,S1]
 exact HG hz.vl (fun v hv=>⟨hz.ul v hv,hz.sl v hv⟩) d.2.1 [] rfl
def vC (bs:List ah) (n:S0):Int:=qY (fun b=>decide (b.1=n)) bs 0
theorem Ci {d:aO} (hl:d.2.2.1.length≤1000000000) (n:S0):kq d n=some ((vC d.2.2.1 n,()),()):=by
 rw[CP,it]
 have h:=qZ (s:=d.2.2.1) (d:=au.dflt) (p:=fun b=>decide (b.1=n)) (P:=fun j=>bO d.2.2.1 (d.2.2.1.length:Int) j n) (F:=fun j=>some ((j,()),(n,()))) (by omega) (fun j=>by
  rw[gB]
  simp only[zU,S1,j0]) d.2.2.1 [] rfl
 have h':bO d.2.2.1 (d.2.2.1.length:Int) 0 n=some ((vC d.2.2.1 n,()),(n,())):=h
 rw[h']
 rfl
theorem AB (bs:List ah) (n:S0):decide (vC bs n < 0) = !dB bs n:=by
 have h1:decide (vC bs n≥0)=dB bs n:=vy bs 0
 rw[←h1]
 by_cases h:vC bs n < 0
 ·rw[U2 h,U9 (by omega)]
  rfl
 ·rw[U9 h,U2 (by omega)]
  rfl
theorem Dl {bs:List ah} {n:S0} (h:dB bs n=true) : ∃ pre b ys,bs=pre++b :: ys∧b.1=n∧bb bs n=b.2.1∧vC bs n=(pre.length:Int) ∧ ∀ c∈pre,c.1≠n:=by
 have h0:vC bs n ≠ -1:=by
  have:=AB bs n
  rw[h] at this
  intro e
  rw[e] at this
  cases this
 obtain⟨pre,b,ys,h1,h2,h3,h4⟩:=Db h0
 have h2':b.1=n:=of_decide_eq_true h2
 refine⟨pre,b,ys,h1,h2',?_,?_,fun c hc=>of_decide_eq_false (h3 c hc)⟩
 ·unfold bb
  rw[h1,List.find?_append,da_.2 (fun c hc=>by rw[h3 c hc]; decide),List.find?_cons,h2]
  rfl
 ·rw[show vC bs n=_ from h4]
  simp
theorem EB {l:List ah} {n:S0} {x:Int} (h : ∀ c∈l,c.1≠n):et l n x=l:=by
 unfold et
 exact(List.map_congr_left fun c hc=>S4 (h c hc)).trans (List.map_id _)
theorem Qi {pre ys:List ah} {b:ah} {n:S0} {x:Int} (hs:(pre++b :: ys).Pairwise fun a b=>fV a.1 b.1=true) (hb:b.1=n) (hp : ∀ c∈pre,c.1≠n):et (pre++b :: ys) n x=pre++(b.1,x,()) :: ys:=by
 have hy : ∀ c∈ys,c.1≠n:=fun c hc e=>by
  have:=(V7.1 (List.pairwise_append.1 hs).2.1).1 c hc
  rw[e,hb,tY] at this
  cases this
 have h1:=EB (x:=x) hp
 have h2:=EB (x:=x) hy
 unfold et at h1 h2 ⊢
 rw[bq_,List.map_cons,h1,h2,S6 hb]
section
variable {d:aO} (h:bS d)
include h
theorem vD (n:S0):pw d n=some ((bb d.2.2.1 n,()),()):=by
 rw[KS,lF h.szd,S1,co.2 h]
 dsimp only
 rw[S4 (by decide),Ci h.szd.bl,S1]
 dsimp only
 rw[AB]
 cases hn:dB d.2.2.1 n with
 | false=>rw[S6 (by decide),JB hn]
 | true =>
  obtain⟨pre,b,ys,h1,h2,h3,h4,h5⟩:=Dl hn
  rw[S4 (by decide),S1]
  dsimp only
  rw[h4,bk h1,h3]
theorem Nz {x:Int} (hx:cB d.2.1 x=true):uV d x=some ((dG d.2.1 x,()),()):=by
 obtain⟨v,hv,e,hF⟩:=Ho hx
 have hl:=dc (h.sh v hv)
 have h0:=Av (vs:=d.2.1) (id:=x)
 rw[hx,T0] at h0
 rw[E6,jE h.szd.vl,S1]
 dsimp only
 rw[aC h0,hF,sF (by omega),S1,←e,yA h.vr hv]
theorem NA {x:Int} (hx:cB d.2.1 x=false):dG d.2.1 x=[]:=by
 have:d.2.1.find? (fun v=>v.1 == x)=none:=by
  rw[da_]
  intro v hv e
  unfold cB at hx
  rw[List.any_eq_false] at hx
  exact hx v hv e
 unfold dG
 rw[this]
theorem zr (x:Int):uW d x=some ((dG d.2.1 x,cB d.2.1 x,()),()):=by
 rw[IA,lF h.szd,S1,co.2 h]
 dsimp only
 rw[S4 (by decide),jE h.szd.vl,S1]
 dsimp only
 rw[f9]
 cases hx:cB d.2.1 x with
 | false=>rw[S6 (by decide),NA h hx]
 | true=>rw[S4 (by decide),Nz h hx,S1]
theorem O5:r9 d=some ((nf d,()),()):=by
 rw[CQ]
 unfold nf
 by_cases e1:d.2.1.length=40
 ·rw[S6 (by simp[e1]),U2 e1]
  rfl
 ·rw[S4 (by simp; omega),U9 e1,Bool.false_or]
  by_cases e2:d.1=1000000000
  ·rw[U2 e2,e2]
   rfl
  ·rw[U9 e2]
   simp[e2]
theorem Lx {n:S0} (hn:dB d.2.2.1 n=true) (us:List Int) {s:List ac} (hs:s.length≤1000000):sc (vC d.2.2.1 n) us s d.1 d.2.1 d.2.2.1=some ((d.1,()),(cI d n us s,())):=by
 obtain⟨pre,b,ys,h1,h2,h3,h4,h5⟩:=Dl hn
 have hvl:=h.vl
 have hnx:=h.nx
 have hm:=Qi (x:=d.1) (by rw[←h1]; exact h.bs) h2 h5
 rw[CR,sF (by omega),S1,bA (by simp only[List.length_singleton]; omega),h4,fN h1]
 unfold cI
 rw[wr (by omega) (by omega),h1,Dg,hm]
end
theorem E9 {d:aO} (hz:q7 d) (n:S0) {s:List ac} (hl:s.length≤1000000) (hs : ∀ c∈s,c.2.1.size≤9223372036854775807):uT d n s=some (((q6 d n s).1,(q6 d n s).2.1,(q6 d n s).2.2,()),()):=by
 rw[E5,lF hz,S1]
 dsimp only
 unfold q6
 cases hk:gG d with
 | false=>rw[S6 (by decide),S4 (by decide)]; rfl
 | true =>
  have h:=co.1 hk
  rw[S4 (by decide),S6 rfl,Qh hz,S1,Ci hz.bl,S1]
  dsimp only
  rw[AB]
  cases h1:dB d.2.2.1 n with
  | false=>rw[S6 (by decide),S4 (by decide)]
  | true =>
   rw[S4 (by decide),S6 rfl,sA hs (by omega),S1]
   dsimp only
   cases h2:bi s with
   | false=>rw[S6 (by decide),S4 (by decide)]
   | true =>
    rw[S4 (by decide),S6 rfl,O5 h,S1]
    dsimp only
    by_cases h3:nf d=true
    ·rw[S6 h3,S6 h3]
    ·obtain⟨pre,b,ys,k1,k2,k3,k4,k5⟩:=Dl h1
     rw[S4 h3,S4 h3,Lx h h1 _ (by omega),S1,k4,fN k1]
     have hg:V5 d.2.2.1 (V1 (pre.length:Int)) au.dflt=b:=by rw[k1]; exact jO
     rw[hg,k3]
theorem Dn {d:aO} (hz:q7 d) (n:S0) {s:List ac} (hl:s.length≤1000000) (hs : ∀ c∈s,c.2.1.size≤9223372036854775807):il d n s=some (((q6 d n s).1,(q6 d n s).2.1,(q6 d n s).2.2,()),()):=by
 cases hk:gG d with
 | true=>exact wh (co.1 hk) n hl hs
 | false =>
  rw[vR,om hz,S1,hk]
  dsimp only
  unfold q6
  rw[S6 (by decide),hk,S4 (by decide)]
  rfl
theorem jF (s:S0):(dh s).length=s.size:=by
 unfold dh
 rw[List.length_map]
 rfl
theorem pC {s:S0} : ∀ n∈dh s,0≤n∧n < 256:=fun n hn=>by
 unfold dh at hn
 obtain⟨b,hb,rfl⟩:=Z1.1 hn
 have:=UInt8.toNat_lt b
 omega
theorem pD {s:S0} {bs:List Int} (h:bs.length+s.size≤140737488355328):bL s () bs=some (((s.size:Int),true,()),(((),bs++dh s,()),())):=by
 rw[mg]
 unfold nW
 show(if bc=_∧bc=_ then _ else _:Option _)=_
 rw[S6 ⟨rfl,rfl⟩]
 simp only[ef?,dite_true,S1]
 exact S6 h
theorem Qj {bs:List Int} (h : ∀ n∈bs,0≤n∧n < 256):gx () bs=some ((strOfNums bs,()),(((),bs,()),())):=by
 rw[pf]
 unfold lv
 show(if bc=_∧bc=_ then _ else _:Option _)=_
 rw[S6 ⟨rfl,rfl⟩]
 simp only[ef?,dite_true,S1]
 exact S6 (List.all_eq_true.2 fun n hn=>U2 (h n hn))
def Rt (r:aA):S0:=if bT r=true then ba (jd (r,false,false,())) else ba []
theorem O6 (r:aA):zP r=some ((Rt r,()),()):=by
 rw[Ix,iL]
 rfl
theorem HH (r:aA):(Rt r).size≤10:=by
 obtain⟨z,h1,h2⟩:=zq (r,false,false,())
 rw[iM] at h1
 cases h1
 exact h2
def JJ (b:ah):List Int:=dh ((⟨#[98,114,97,110,99,104,32]⟩:S0)++b.1++(⟨#[32]⟩:S0)++d8 b.2.1++(⟨#[10]⟩:S0))
def HI (u:Int):List Int:=dh ((⟨#[32]⟩:S0)++d8 u)
def JK (c:ac):List Int:=dh (Rt c.1++(⟨#[32]⟩:S0)++c.2.1++(⟨#[10]⟩:S0))
def EC (v:ag):List Int:=dh ((⟨#[118,101,114,115,105,111,110,32]⟩:S0)++d8 v.1)++(v.2.1.flatMap HI++(dh (⟨#[10]⟩:S0)++v.2.2.1.flatMap JK))
def Ru (d:aO):List Int:=dh ((⟨#[100,97,103,32]⟩:S0)++d8 d.1++(⟨#[10]⟩:S0))++(d.2.2.1.flatMap JJ++d.2.1.flatMap EC)
theorem JL:(⟨#[98,114,97,110,99,104,32]⟩:S0).size=7:=rfl
theorem NB:(⟨#[118,101,114,115,105,111,110,32]⟩:S0).size=8:=rfl
theorem NC:(⟨#[100,97,103,32]⟩:S0).size=4:=rfl
theorem t8:(⟨#[32]⟩:S0).size=1:=rfl
theorem ua:(⟨#[10]⟩:S0).size=1:=rfl
def AC (n:Int):Prop := -9223372036854775807≤n∧n≤9223372036854775807
theorem JM {c:ac} (h:c.2.1.size≤200):(JK c).length≤300:=by
 have:=HH c.1
 unfold JK
 rw[jF]
 simp only[W5,t8,ua]
 omega
theorem ra {α:Type} {f:α→List Int} {n:Nat} : ∀(l:List α),(∀ x∈l,(f x).length≤n)→(l.flatMap f).length≤n*l.length
 | [],_=>Nat.zero_le _
 | x :: l,h=>by
  have h1:=h x (by simp)
  have h2:=ra l fun y hy=>h y (List.mem_cons_of_mem _ hy)
  rw[ck_,S5,T3,Nat.mul_add]
  omega
theorem ED {vs:List ag} {n i:Int} {cs:List ac} (hl:cs.length≤1000000) (hc : ∀ c∈cs,c.2.1.size≤200) : ∀(ys pre:List ac) (acc:List Int),cs=pre++ys→acc.length+300*ys.length≤1000000000000→jy vs n i cs (cs.length:Int) (pre.length:Int) () acc=iW vs n (IntKind.i64.wrap (i+1)) () (acc++ys.flatMap JK)
 | [],pre,acc,h,hb=>by rw[rE,ax (bQ h),List.flatMap_nil,W9]
 | y :: ys,pre,acc,h,hb=>by
  have hy:=hc y (by rw[h]; simp)
  have hr:=HH y.1
  have hk:=JM hy
  rw[T3] at hb
  rw[rE,aC (bq h),bk h,O6,S1,dg (by rw[t8]; dsimp only; omega),dg (by simp only[W5,t8]; omega),dg (by simp only[W5,t8,ua]; omega),pD (by simp only[W5,t8,ua]; omega),S1,aL h (by omega)]
  have ih:=ED (vs:=vs) (n:=n) (i:=i) hl hc ys (pre++[y]) (acc++JK y) (aM h) (by rw[S5]; omega)
  rw[ck_,←X2]
  exact ih
theorem Dp {u:Int} (h:AC u):(HI u).length≤30:=by
 have:=dR h.1 h.2
 unfold HI
 rw[jF]
 simp only[W5,t8]
 omega
theorem HJ {vs:List ag} {n i id:Int} {us us2:List Int} {cs:List ac} (hl:us.length≤1000000) (hu : ∀ u∈us,AC u) : ∀(ys pre acc:List Int),us=pre++ys→acc.length+30*ys.length≤1000000000000→mf vs n i us (us.length:Int) (pre.length:Int) () id us2 cs acc=jy vs n i cs (cs.length:Int) 0 () (acc++ys.flatMap HI++dh (⟨#[10]⟩:S0))
 | [],pre,acc,h,hb=>by
  rw[rD,ax (bQ h),List.flatMap_nil,W9,pD (by rw[ua]; omega),S1]
 | y :: ys,pre,acc,h,hb=>by
  have hy:=hu y (by rw[h]; simp)
  have hk:=Dp hy
  have hs:=dR hy.1 hy.2
  rw[T3] at hb
  have hy1:=hy.1
  rw[rD,aC (bq h),bk h,gy (by omega) hy.2,S1,dg (by rw[t8]; dsimp only; omega),pD (by simp only[W5,t8]; omega),S1,aL h (by omega)]
  have ih:=HJ (vs:=vs) (n:=n) (i:=i) (id:=id) (us2:=us2) (cs:=cs) hl hu ys (pre++[y]) (acc++HI y) (aM h) (by rw[S5]; omega)
  rw[ck_,←X2]
  exact ih
def Rv (v:ag):Prop:=AC v.1∧v.2.1.length≤2∧(∀ u∈v.2.1,AC u)∧v.2.2.1.length≤120 ∧ ∀ c∈v.2.2.1,c.2.1.size≤200
theorem Qk {v:ag} (h:Rv v):(EC v).length≤40000:=by
 obtain⟨h1,h2,h3,h4,h5⟩:=h
 have k0:=dR h1.1 h1.2
 have k1:=ra (f:=HI) v.2.1 fun u hu=>Dp (h3 u hu)
 have k2:=ra (f:=JK) v.2.2.1 fun c hc=>JM (h5 c hc)
 unfold EC
 simp only[S5,jF,W5,NB,ua]
 omega
theorem RY {v:ag} : ∀ n∈EC v,0≤n∧n < 256:=by
 intro n hn
 unfold EC at hn
 rcases W1.1 hn with hn | hn
 ·exact pC n hn
 ·rcases W1.1 hn with hn | hn
  ·obtain⟨u,_,hn⟩:=bt_.1 hn
   exact pC n hn
  ·rcases W1.1 hn with hn | hn
   ·exact pC n hn
   ·obtain⟨c,_,hn⟩:=bt_.1 hn
    exact pC n hn
theorem HK {vs:List ag} (hl:vs.length≤1000000) (hv : ∀ v∈vs,Rv v) : ∀(ys pre:List ag) (acc:List Int),vs=pre++ys→acc.length+40000*ys.length≤100000000000→(∀ n∈acc,0≤n∧n < 256)→iW vs (vs.length:Int) (pre.length:Int) () acc=some ((strOfNums (acc++ys.flatMap EC),()),())
 | [],pre,acc,h,hb,ha=>by
  rw[tL,ax (bQ h),List.flatMap_nil,W9,Qj ha,S1]
 | y :: ys,pre,acc,h,hb,ha=>by
  have hy:=hv y (by rw[h]; simp)
  have hk:=Qk hy
  obtain⟨h1,h2,h3,h4,h5⟩:=hy
  have hs:=dR h1.1 h1.2
  have h10:=h1.1
  have k1:=ra (f:=HI) y.2.1 fun u hu=>Dp (h3 u hu)
  rw[T3] at hb
  rw[tL,aC (bq h),bk h,gy (by omega) h1.2,S1,dg (by rw[NB]; dsimp only; omega),pD (by simp only[W5,NB]; omega),S1]
  refine Eq.trans (HJ (us:=y.2.1) (by omega) h3 y.2.1 [] _ rfl (by simp only[S5,jF,W5,NB]; omega)) ?_
  refine Eq.trans (ED (cs:=y.2.2.1) (by omega) h5 y.2.2.1 [] _ rfl (by simp only[S5,jF,W5,NB,ua]; omega)) ?_
  rw[aL h (by omega)]
  have ih:=HK hl hv ys (pre++[y]) (acc++EC y) (aM h) (by rw[S5]; omega) (fun n hn=>(W1.1 hn).elim (ha n) (RY n))
  rw[ck_,←X2]
  refine Eq.trans (congrArg _ ?_) ih
  unfold EC
  simp only[X2]
theorem JN {b:ah} (h1:b.1.size≤12) (h2:AC b.2.1):(JJ b).length≤60:=by
 have:=dR h2.1 h2.2
 unfold JJ
 rw[jF]
 simp only[W5,t8,ua,JL]
 omega
theorem HL {bs bs2:List ah} {vs:List ag} {a:Int} (hl:bs.length≤1000000) (hb' : ∀ b∈bs,b.1.size≤12∧AC b.2.1) : ∀(ys pre:List ah) (acc:List Int),bs=pre++ys→acc.length+60*ys.length≤1000000000000→nK bs (bs.length:Int) (pre.length:Int) a vs bs2 () acc=iW vs (vs.length:Int) 0 () (acc++ys.flatMap JJ)
 | [],pre,acc,h,hb=>by rw[tK,ax (bQ h),List.flatMap_nil,W9]
 | y :: ys,pre,acc,h,hb=>by
  obtain⟨k1,k2⟩:=hb' y (by rw[h]; simp)
  have hk:=JN k1 k2
  have hs:=dR k2.1 k2.2
  have k20:=k2.1
  rw[T3] at hb
  rw[tK,aC (bq h),bk h,dg (by rw[JL]; omega),dg (by simp only[W5,JL,t8]; omega),gy (by omega) k2.2,S1,dg (by simp only[W5,JL,t8]; omega),dg (by simp only[W5,JL,t8,ua]; omega),pD (by simp only[W5,JL,t8,ua]; omega),S1,aL h (by omega)]
  have ih:=HL (bs2:=bs2) (vs:=vs) (a:=a) hl hb' ys (pre++[y]) (acc++JJ y) (aM h) (by rw[S5]; omega)
  rw[ck_,←X2]
  exact ih
theorem bS.smV {d:aO} (h:bS d) : ∀ v∈d.2.1,Rv v:=fun v hv=>by
 have h1:=h.id v hv
 have h2:=h.nx
 have hi : ∀ x∈ct d.2.1,1≤x∧x≤1000000000:=fun x hx=>by
  obtain⟨w,hw,rfl⟩:=Z1.1 hx
  have:=h.id w hw
  omega
 refine⟨⟨by omega,by omega⟩,(h.up v hv).1,fun u hu => ?_,dc (h.sh v hv),mu (h.sh v hv)⟩
 have:=hi u (fQ.1 ((h.up v hv).2.1 u hu).2)
 exact⟨by omega,by omega⟩
theorem bS.smB {d:aO} (h:bS d) : ∀ b∈d.2.2.1,b.1.size≤12∧AC b.2.1:=fun b hb=>by
 have h2:=h.nx
 obtain⟨v,hv,e⟩:=Z1.1 (fQ.1 (h.br b hb).2)
 have h3:=h.id v hv
 have:=(h.br b hb).1
 unfold mE at this
 rw[S8,S8,T0,T0] at this
 refine⟨this.2.1,by omega,by omega⟩
theorem O7 {d:aO} (h:bS d):zQ d=some ((strOfNums (Ru d),()),()):=by
 have h1:=h.nx
 have h2:=h.vl
 have h3:=h.bl
 have hs:=dR (n:=d.1) (by omega) (by omega)
 have k2:=ra (f:=JJ) d.2.2.1 fun b hb=>JN (h.smB b hb).1 (h.smB b hb).2
 rw[Iy,gy (by omega) (by omega),S1,dg (by rw[NC]; dsimp only; omega),dg (by simp only[W5,NC,ua]; omega),pD (by simp only[V3,W5,NC,ua]; omega),S1]
 refine Eq.trans (HL (bs:=d.2.2.1) (by omega) h.smB d.2.2.1 [] _ rfl (by simp only[S5,V3,jF,W5,NC,ua]; omega)) ?_
 refine Eq.trans (HK (vs:=d.2.1) (by omega) h.smV d.2.1 [] _ rfl (by simp only[S5,V3,jF,W5,NC,ua]; omega) fun n hn => ?_) ?_
 ·rcases W1.1 hn with hn | hn
  ·exact pC n (by simpa using hn)
  ·obtain⟨b,_,hn⟩:=bt_.1 hn
   exact pC n hn
 ·unfold Ru
  rw[List.nil_append,X2]
noncomputable def Rx (d:aO):S0:=if gG d=true then strOfNums (Ru d) else⟨#[]⟩
theorem sG {d:aO} (hz:q7 d):uU d=some ((Rx d,()),()):=by
 rw[Iz,lF hz,S1]
 dsimp only
 unfold Rx
 cases hk:gG d with
 | false=>rw[S6 (by decide),S4 (by decide)]
 | true=>rw[S4 (by decide),S6 rfl,O7 (co.1 hk),S1]
theorem ND {b c:ah} : ∀ {bs:List ah},(bs.Pairwise fun a b=>fV a.1 b.1=true)→b∈bs→c∈bs→b.1=c.1→b=c
 | [],_,hb,_,_=>by cases hb
 | a :: l,hs,hb,hc,e=>by
  obtain⟨h1,h2⟩:=V7.1 hs
  rcases U7.1 hb with hb | hb
  ·rcases U7.1 hc with hc | hc
   ·rw[hb,hc]
   ·have:=h1 c hc
    rw[←hb,e,tY] at this
    cases this
  ·rcases U7.1 hc with hc | hc
   ·have:=h1 b hb
    rw[←hc,e,tY] at this
    cases this
   ·exact ND h2 hb hc e
theorem NE {bs:List ah} (hs:bs.Pairwise fun a b=>fV a.1 b.1=true) {b:ah} (hb:b∈bs):bb bs b.1=b.2.1:=by
 have hn:dB bs b.1=true:=by
  unfold dB
  exact List.any_eq_true.2 ⟨b,hb,U2 rfl⟩
 obtain⟨c,hc,e1,e2⟩:=Dd hn
 rw[e2,ND hs hc hb e1]
section
variable {d:aO} (h:bS d) {n:S0} (hn:dB d.2.2.1 n=true) {s:List ac} (he:bS (cI d n [bb d.2.2.1 n] s))
include h hn he
theorem JO:((d.1,[bb d.2.2.1 n],s,()):ag)∈(cI d n [bb d.2.2.1 n] s).2.1:=W1.2 (.inr (U4.2 rfl))
theorem Dq {v:ag} (hv:v∈d.2.1):v∈(cI d n [bb d.2.2.1 n] s).2.1:=W1.2 (.inl hv)
theorem JP:rO (cI d n [bb d.2.2.1 n] s).2.1 d.1=[bb d.2.2.1 n]:=tZ he.vr (JO h hn he)
theorem NF {x:Int} (hx:x∈ct d.2.1):rO (cI d n [bb d.2.2.1 n] s).2.1 x=rO d.2.1 x:=by
 obtain⟨v,hv,rfl⟩:=Z1.1 hx
 rw[tZ he.vr (Dq h hn he hv),tZ h.vr hv]
theorem JQ:ct (cI d n [bb d.2.2.1 n] s).2.1=ct d.2.1++[d.1]:=by
 show(d.2.1++[(d.1,[bb d.2.2.1 n],s,())]).map (·.1)=_
 rw[bq_]
 rfl
theorem JR:d.1∈ct (cI d n [bb d.2.2.1 n] s).2.1:=by
 rw[JQ h hn he]
 simp
theorem JS {x:Int}:x∈li (cI d n [bb d.2.2.1 n] s).2.1 d.1↔x=d.1∨x∈li d.2.1 (bb d.2.2.1 n):=by
 have ha:=(h.head hn).1
 have h0:=pz h ha
 have h1:=pz he (JR h hn he)
 constructor
 ·refine Au (Q:=fun x=>x=d.1∨x∈li d.2.1 (bb d.2.2.1 n)) (fun x hx y hy => ?_) _ _ _ (fun x hx => .inl (U4.1 hx)) x
  rcases hx with rfl | hx
  ·rw[JP h hn he] at hy
   rw[U4.1 hy]
   exact .inr h0.2.2.1
  ·rw[NF h hn he (h0.2.1 x hx)] at hy
   exact .inr (h0.2.2.2 x hx y hy)
 ·rintro(rfl | hx)
  ·exact h1.2.2.1
  ·refine(Au (Q:=fun x=>x∈ct d.2.1∧x∈li (cI d n [bb d.2.2.1 n] s).2.1 d.1) (fun x hx y hy=>⟨h.closed x hx.1 y hy,h1.2.2.2 x hx.2 y (by rw[NF h hn he hx.1]; exact hy)⟩) _ _ _ (fun x hx => ?_) x hx).2
   rw[U4.1 hx]
   exact⟨ha,h1.2.2.2 d.1 h1.2.2.1 _ (by rw[JP h hn he]; simp)⟩
theorem Ql:cF (cI d n [bb d.2.2.1 n] s).2.1 d.1=cF d.2.1 (bb d.2.2.1 n)++[d.1]:=by
 unfold cF
 rw[JQ h hn he,List.filter_append]
 congr 1
 ·refine List.filter_congr fun x hx => ?_
  rw[Bool.eq_iff_iff,T0,T0,JS h hn he]
  constructor
  ·rintro(rfl | k)
   ·exact absurd hx h.new_id
   ·exact k
  ·exact .inr
 ·rw[List.filter_cons,S6 (U2 ((JS h hn he).2 (.inl rfl)))]
  rfl
theorem O8:bb (cI d n [bb d.2.2.1 n] s).2.2.1 n=d.1:=by
 obtain⟨b,hb,e1,e2⟩:=Dd hn
 have hm:((b.1,d.1,()):ah)∈(cI d n [bb d.2.2.1 n] s).2.2.1:=by
  show _∈et d.2.2.1 n d.1
  unfold et
  exact Z1.2 ⟨b,hb,S6 e1⟩
 have:=NE he.bs hm
 rw[show((b.1,d.1,()):ah).1=n from e1] at this
 exact this
theorem NG {b:ah} (hb:b∈d.2.2.1) (hbn:b.1≠n):bb (cI d n [bb d.2.2.1 n] s).2.2.1 b.1=b.2.1:=by
 refine NE he.bs ?_
 show _∈et d.2.2.1 n d.1
 unfold et
 exact Z1.2 ⟨b,hb,S4 hbn⟩
theorem NH {v:ag} (hv:v∈d.2.1):dG (cI d n [bb d.2.2.1 n] s).2.1 v.1=v.2.2.1∧cB (cI d n [bb d.2.2.1 n] s).2.1 v.1=true :=
 ⟨yA he.vr (Dq h hn he hv),fQ.2 (Z1.2 ⟨v,Dq h hn he hv,rfl⟩)⟩
end
end Go.Proofs.YtfffplonjaigkaaGreatDoor.Abs
