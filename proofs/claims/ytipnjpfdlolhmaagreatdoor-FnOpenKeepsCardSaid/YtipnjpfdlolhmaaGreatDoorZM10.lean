/- Plain laws: sheets behind the opening or the closing of rows, behind a copy, behind an area cleared. -/
import Derived.Test.YtipnjpfdlolhmaaGreatDoorZM9
import Derived.Test.YtipnjpfdlolhmaaGreatDoorZM8
import Derived.Test.YtipnjpfdlolhmaaGreatDoorZM5
set_option linter.unusedVariables false
set_option linter.unusedSimpArgs false
set_option linter.unusedSectionVars false
open Bool renaming and_eq_true→Z8,eq_false_iff→bt_,false_eq_true→Z5,not_false→as_,not_true→aj_
open ByteArray renaming toList→Z6
open Go.IntKind renaming i64→gu_,wrap→gt_
open Int renaming toNat_natCast→dd_,toNat→an_
open List renaming filter_cons→ed_,filter_eq_self→ev_,getD_eq_getElem?_getD→ak_,getD→aw_,getElem?_eq_none→cb_,getElem?_map→eh_,head?_cons→cr_,length_append→Z7,length_cons→aa_,length_filter_le→dl_,length_map→cn_,length_nil→bg_,length_range→fc_,length_set→ec_,length_singleton→Z4,length→ac_,map_congr_left→ej_,map_map→fj_,mem_append→bx_,mem_cons_of_mem→af_,mem_cons_self→bn_,mem_cons→bd_,mem_filter→eq_,mem_range→dy_,mem_singleton→bc_,pairwise_cons→bs_,range→bu_,replicate→az_,set→ee_
open Nat renaming le_refl→ag_,le_trans→bf_,zero_le→de_
open Option renaming bind_some→Z1,getD_some→ch_,isSome_some→fu_,map_some→cs_
open Option.some renaming injEq→ap_
open _root_ renaming ByteArray→Z0,absurd→ay_,congrArg→ae_,decide_eq_false→bm_,decide_eq_true_eq→Z9,decide_eq_true→ba_,decide_false→ca_,if_false→ad_,if_neg→Z2,if_pos→Z3,if_true→al_
namespace Go.Proofs.YtipnjpfdlolhmaaGreatDoor.Abs
open Go
def fF (row many:Int) (closed:Bool) (q:aw):aw:=(q.1,dP row many closed 0 q.2.1,())
def dW (row many:Int) (closed:Bool) (q:aw):Bool:=closed && (decide (row≤q.2.1) && decide (q.2.1 < row+many))
noncomputable def cb (row many:Int) (closed:Bool):List ac→Option (List ac)
 | []=>some []
 | c :: l=>if dW row many closed c.1=true then cb row many closed l else match mb (cB row many closed) c.2.1 with
  | none=>none
  | some y=>if aA (fF row many closed c.1)=true then(cb row many closed l).map fun r=>(fF row many closed c.1,y,()) :: r else none
theorem Rs {row many:Int} {closed:Bool} {a b:aw} (hm:0≤many) (ha:dW row many closed a=false) (hb:dW row many closed b=false) (h:cA a b=true):cA (fF row many closed a) (fF row many closed b)=true:=by
 rw[kt] at h ⊢
 unfold fF dP
 dsimp only
 unfold dW at ha hb
 cases closed with
 | false =>
  simp only[al_]
  split <;> split <;> omega
 | true =>
  simp only[Bool.true_and,Bool.and_eq_false_iff,decide_eq_false_iff_not] at ha hb
  simp only[Bool.true_eq_false,ad_]
  split <;> split <;> (try split) <;> (try split) <;> omega
theorem vu {row many:Int} {closed:Bool} : ∀ {s r:List ac},cb row many closed s=some r→r.length≤s.length ∧ ∀ d∈r,∃ c∈s,dW row many closed c.1=false∧d.1=fF row many closed c.1∧mb (cB row many closed) c.2.1=some d.2.1∧aA d.1=true
 | [],r,h=>by
  unfold cb at h
  cases h
  exact⟨ag_ _,fun d hd=>by cases hd⟩
 | c :: l,r,h=>by
  unfold cb at h
  by_cases hg:dW row many closed c.1=true
  ·rw[Z3 hg] at h
   obtain⟨h1,h2⟩:=vu h
   exact⟨by rw[aa_]; omega,fun d hd=>(h2 d hd).imp fun c hc=>⟨af_ _ hc.1,hc.2⟩⟩
  ·rw[Z2 hg] at h
   cases hy:mb (cB row many closed) c.2.1 with
   | none=>rw[hy] at h; cases h
   | some y =>
    rw[hy] at h
    simp only at h
    by_cases ho:aA (fF row many closed c.1)=true
    ·rw[Z3 ho] at h
     cases hr:cb row many closed l with
     | none=>rw[hr] at h; cases h
     | some q =>
      rw[hr] at h
      simp only[cs_,ap_] at h
      subst h
      obtain⟨h1,h2⟩:=vu hr
      refine⟨by simp only[aa_]; omega,fun d hd => ?_⟩
      rcases bd_.1 hd with rfl | hd
      ·exact⟨c,bn_,by simpa using hg,rfl,hy,ho⟩
      ·exact(h2 d hd).imp fun c hc=>⟨af_ _ hc.1,hc.2⟩
    ·rw[Z2 ho] at h
     cases h
theorem BD {row many:Int} {closed:Bool} (hm:0≤many) : ∀ {s r:List ac},gi s→cb row many closed s=some r→gi r
 | [],r,_,h=>by
  unfold cb at h
  cases h
  exact List.Pairwise.nil
 | c :: l,r,hs,h=>by
  have hs':=bs_.1 hs
  unfold cb at h
  by_cases hg:dW row many closed c.1=true
  ·rw[Z3 hg] at h
   exact BD hm hs'.2 h
  ·rw[Z2 hg] at h
   cases hy:mb (cB row many closed) c.2.1 with
   | none=>rw[hy] at h; cases h
   | some y =>
    rw[hy] at h
    simp only at h
    by_cases ho:aA (fF row many closed c.1)=true
    ·rw[Z3 ho] at h
     cases hr:cb row many closed l with
     | none=>rw[hr] at h; cases h
     | some q =>
      rw[hr] at h
      simp only[cs_,ap_] at h
      subst h
      refine bs_.2 ⟨fun d hd => ?_,BD hm hs'.2 hr⟩
      obtain⟨e,he,g1,g2,_,_⟩:=(vu hr).2 d hd
      dsimp only
      rw[g2]
      exact Rs hm (by simpa using hg) g1 (hs'.1 e he)
    ·rw[Z2 ho] at h
     cases h
theorem Ef {row many:Int} {closed:Bool} (hm:0≤many) {s r:List ac} (hs:bd s=true) (h:cb row many closed s=some r):bd r=true:=by
 obtain⟨h1,h2⟩:=vu h
 have hl:=cS hs
 refine MI ⟨BD hm (qV hs) h,fun d hd => ?_⟩ (by omega)
 obtain⟨c,hc,_,_,g3,g4⟩:=h2 d hd
 exact⟨g4,Hj ((cR.1 hs).2.1 c hc).2 g3⟩
def dU (a:aB) (s:List ac):List ac:=s.filter fun c => !(bA c.1.1 a.1.1 a.2.1.1 && bA c.1.2.1 a.1.2.1 a.2.1.2.1)
theorem Pt {a:aB} {s:List ac} (h:bd s=true):bd (dU a s)=true:=by
 have hl:=cS h
 have:=dl_ (fun c:ac => !(bA c.1.1 a.1.1 a.2.1.1 && bA c.1.2.1 a.1.2.1 a.2.1.2.1)) s
 refine MI ⟨List.Pairwise.filter _ (qV h),fun c hc=>(cR.1 h).2.1 c (eq_.1 hc).1⟩ (bf_ this hl)
def rO (a:aB) (q:aw):Bool:=bA q.1 a.1.1 a.2.1.1 && bA q.2.1 a.1.2.1 a.2.1.2.1
def uo (c r:Int) (q:aw):aw:=(q.1+c,q.2.1+r,())
noncomputable def ie (a:aB) (c r:Int):List ac→Option (List ac)
 | []=>some []
 | x :: l=>if rO a x.1=true then(match mb (k8 c r) x.2.1 with
  | none=>none
  | some y=>(ie a c r l).map fun q=>(uo c r x.1,y,()) :: q) else ie a c r l
theorem uq {a:aB} {c r:Int} : ∀ {s q:List ac},ie a c r s=some q→q.length≤s.length ∧ ∀ d∈q,∃ x∈s,rO a x.1=true∧d.1=uo c r x.1∧mb (k8 c r) x.2.1=some d.2.1
 | [],q,h=>by
  unfold ie at h
  cases h
  exact⟨ag_ _,fun d hd=>by cases hd⟩
 | x :: l,q,h=>by
  unfold ie at h
  by_cases hg:rO a x.1=true
  ·rw[Z3 hg] at h
   cases hy:mb (k8 c r) x.2.1 with
   | none=>rw[hy] at h; cases h
   | some y =>
    rw[hy] at h
    simp only at h
    cases hr:ie a c r l with
    | none=>rw[hr] at h; cases h
    | some p =>
     rw[hr] at h
     simp only[cs_,ap_] at h
     subst h
     obtain⟨h1,h2⟩:=uq hr
     refine⟨by simp only[aa_]; omega,fun d hd => ?_⟩
     rcases bd_.1 hd with rfl | hd
     ·exact⟨x,bn_,hg,rfl,hy⟩
     ·exact(h2 d hd).imp fun c hc=>⟨af_ _ hc.1,hc.2⟩
  ·rw[Z2 hg] at h
   obtain⟨h1,h2⟩:=uq h
   exact⟨by rw[aa_]; omega,fun d hd=>(h2 d hd).imp fun c hc=>⟨af_ _ hc.1,hc.2⟩⟩
theorem T0 {c r:Int} {a b:aw} (h:cA a b=true):cA (uo c r a) (uo c r b)=true:=by
 rw[kt] at h ⊢
 unfold uo
 dsimp only
 omega
theorem Eg {a:aB} {c r:Int} : ∀ {s q:List ac},gi s→ie a c r s=some q→gi q
 | [],q,_,h=>by
  unfold ie at h
  cases h
  exact List.Pairwise.nil
 | x :: l,q,hs,h=>by
  have hs':=bs_.1 hs
  unfold ie at h
  by_cases hg:rO a x.1=true
  ·rw[Z3 hg] at h
   cases hy:mb (k8 c r) x.2.1 with
   | none=>rw[hy] at h; cases h
   | some y =>
    rw[hy] at h
    simp only at h
    cases hr:ie a c r l with
    | none=>rw[hr] at h; cases h
    | some p =>
     rw[hr] at h
     simp only[cs_,ap_] at h
     subst h
     refine bs_.2 ⟨fun d hd => ?_,Eg hs'.2 hr⟩
     obtain⟨e,he,_,g2,_⟩:=(uq hr).2 d hd
     dsimp only
     rw[g2]
     exact T0 (hs'.1 e he)
  ·rw[Z2 hg] at h
   exact Eg hs'.2 h
noncomputable def iv (s q:List ac):List ac:=q.foldl (fun o c=>fE o c.1 c.2.1) s
theorem MJ : ∀ {q s:List ac},gi s→gi (iv s q)
 | [],s,h=>h
 | c :: q,s,h=>MJ (q:=q) (Hp h)
section
end
section
end
section
variable {c:List Int} (hc:IJ c)
include hc
theorem YN {β:Type} {Q:β→Prop} {s:aY} (n:Nat) {m:Int} {f:(Z0×Unit)×aY×Unit→Option β} (e:m=(n:Int)) (hn:n≤3) (h:Rd c s) (k : ∀ z,z.1.1.size≤6400→Rd c z.2.1→Ok Q (f z)):Ok Q ((bj m s).bind f):=by
 subst e
 have h4:4 ^ n≤64:=bf_ (Nat.pow_le_pow_right (n:=4) (by decide) hn) (by decide)
 exact Ok.bnd (Mr hc n hn h) fun z hz=>k z (by have:=hz.1; omega) hz.2
set_option maxHeartbeats 4000000 in
theorem VZ {s:aY} (h:Rd c s):Ok (fun z=>z.1.1.size≤6401∧Rd c z.2.1) (nh s):=by
 rw[GT]
 repeat' first
  | refine Hh hc (by assumption) (by decide) fun _ _ _ _ => ?_
  | refine YN hc 2 rfl (by decide) (by assumption) fun _ _ _ => ?_
  | refine YN hc 1 rfl (by decide) (by assumption) fun _ _ _ => ?_
  | refine Rg (by omega) (by omega) fun _ _ => ?_
  | refine Ok.inbL ⟨#[]⟩ (by assumption) (by assumption) (by decide) (by decide) (by decide) fun _ => ?_
  | (refine Ok.cats (by simp only[Wu]; omega) ?_; try dsimp only)
  | refine Ok.ite (fun _ => ?_) fun _ => ?_
  | refine Ok.one ⟨?_,by assumption⟩
 all_goals (try dsimp only)
 all_goals (try simp only[size_append,Wu])
 all_goals first | omega | decide
end
noncomputable def ur (s:List ac) (r:aw) (x:Z0):List ac×Bool :=
 if bd s=true∧aA r=true∧(fC x).2=true∧(fE s r (fC x).1).length≤120 then(fE s r (fC x).1,true) else([],false)
theorem IW {s:List ac} {r:aw} {x:Z0} (hl:s.length≤1000000) (hs : ∀ c∈s,c.2.1.size≤9223372036854775807) (hx:x.size≤9223372036854775807):AP s r x=some (((ur s r x).1,(ur s r x).2,()),()):=by
 rw[SN,(uj hx).2.1,Dd hs (by omega),iz]
 simp only[Z1]
 unfold ur
 cases h1:bd s with
 | false=>simp
 | true =>
  cases h2:aA r with
  | false=>simp
  | true =>
   cases h3:(fC x).2 with
   | false=>simp
   | true =>
    rw[IV hl]
    simp only[Z1,aj_,Z5,ad_]
    by_cases h4:(fE s r (fC x).1).length≤120
    ·rw[aL (by omega),Z3 (by simp[h4])]
    ·rw[aQ (by omega),Z2 (by simp[h4])]
def IX (s:List ac):Prop:=s.length≤121 ∧ ∀ c∈s,c.2.1.size≤6401
theorem IX.sz {s:List ac} (h:IX s) : ∀ c∈s,c.2.1.size≤9223372036854775807:=fun c hc=>bf_ (h.2 c hc) (by decide)
def Hr (s:List ac):Prop:=s.length≤120 ∧ ∀ c∈s,c.2.1.size≤6401
theorem Hr.up {s:List ac} (h:Hr s):IX s:=⟨by have:=h.1; omega,h.2⟩
theorem V0 {s:List ac} {r:aw} {x:Z0} {n:Nat} (hs : ∀ c∈s,c.2.1.size≤n) (hx:x.size≤n) : ∀ c∈fE s r x,c.2.1.size≤n:=by
 intro c hc
 rcases Hq.1 hc with h | ⟨_,rfl⟩
 ·exact hs c h.1
 ·exact hx
theorem T1 {s:List ac} {r:aw} {x:Z0} (h : ∀ c∈s,c.2.1.size≤6401):Hr (ur s r x).1:=by
 unfold ur
 split
 ·rename_i k
  exact⟨k.2.2.2,V0 h (bf_ (IT x) (by decide))⟩
 ·exact⟨de_ _,fun c hc=>by cases hc⟩
theorem Xs {β:Type} {Q:β→Prop} {s:List ac} {r:aw} {x:Z0} {f:((List ac)×Bool×Unit)×Unit→Option β} (h:IX s) (hx:x.size≤6401) (k : ∀ z,Hr z.1.1→Ok Q (f z)):Ok Q ((AP s r x).bind f) :=
 Ok.bnd (P:=fun z=>Hr z.1.1) ⟨_,IW (by have:=h.1; omega) h.sz (by omega),T1 h.2⟩ k
section
variable {c:List Int} (hc:IJ c)
include hc
theorem Pu {β:Type} {Q:β→Prop} {s:aY} {f:(Z0×Unit)×aY×Unit→Option β} (h:Rd c s) (k : ∀ z,z.1.1.size≤6401→Rd c z.2.1→Ok Q (f z)):Ok Q ((nh s).bind f):=Ok.bnd (VZ hc h) fun z hz=>k z hz.1 hz.2
theorem BE : ∀(n:Nat) {s:aY} {out:List ac},n≤1000→Rd c s→Hr out→Ok (fun z=>IX z.1.1∧Rd c z.2.1) (j9 (n:Int) s out)
 | 0,s,out,_,h,ho=>by
  rw[rV,aL (by decide)]
  refine Mq hc h (by decide) fun z hz=>Ok.ite (fun _ => ?_) fun _=>Ok.one ⟨ho.up,hz⟩
  refine J4 hc hz fun y _ hy=>Pu hc hy fun x hx hz' => ?_
  have hl:=ho.1
  refine Ok.app (by simp only[Z4]; omega) (Ok.one ⟨⟨by simp only[Z7,Z4]; omega,fun d hd => ?_⟩,hz'⟩)
  rcases bx_.1 hd with hd | hd
  ·exact ho.2 d hd
  ·rw[bc_.1 hd]
   exact hx
 | n+1,s,out,hn,h,ho=>by
  have hw:IntKind.i64.wrap (((n+1:Nat):Int) - 1)=(n:Int):=by rw[wr (by omega) (by omega)]; omega
  rw[rV,aQ (by omega),hw]
  refine J4 hc h fun y _ hy=>Pu hc hy fun x hx hz=>Xs ho.up hx fun w hw=>Ok.ite (fun _ => ?_) fun _ => ?_
  ·exact BE n (by omega) hz hw
  ·exact BE n (by omega) hz ho
end
theorem ZL (a b:ac):bP ak a b=decide (a=b):=by
 by_cases h:a=b
 ·rw[ba_ h]; exact(mE rfl).2 h
 ·rw[bm_ h,bt_]; exact fun k=>h ((mE rfl).1 k)
theorem IY {α:Type} [DecidableEq α] {d:α} {xs ys:List α} {P:Int→Option ((Bool×Unit)×Unit)} (hl:xs.length≤1000000000) (hxy:ys.length=xs.length)
  (hP : ∀ i,P i=if(decide (i < (ac_ xs:Int)))=true then(ix xs i d fun y1=>(ix ys i d fun y2=>(if(!(decide (y1=y2)))=true then(some ((false,()),(()))) else(P (gt_ gu_ (i+1)))))) else(some ((true,()),(())))) : ∀(a b pa pb:List α),xs=pa++a→ys=pb++b→pa.length=pb.length→P (pa.length:Int)=some ((decide (a=b),()),())
 | [],b,pa,pb,ha,hb,hp=>by
  have:b=[]:=by
   have e:=ae_ ac_ ha
   have e':=ae_ ac_ hb
   simp only[Z7,bg_] at e e'
   exact List.length_eq_zero_iff.1 (by omega)
  rw[hP,aL (ci ha),this]
  rfl
 | x :: a,[],pa,pb,ha,hb,hp=>by
  have e:=ae_ ac_ ha
  have e':=ae_ ac_ hb
  simp only[Z7,bg_,aa_] at e e'
  omega
 | x :: a,y :: b,pa,pb,ha,hb,hp=>by
  rw[hP,aQ (cr ha),bI ha,hp,bI hb,←hp,bi ha (by omega),IY hl hxy hP a b (pa++[x]) (pb++[y]) (aU ha) (aU hb) (by simp[hp])]
  by_cases e:x=y
  ·rw[ba_ e]
   subst e
   simp
  ·rw[bm_ e]
   simp[e]
theorem YO {α:Type} {xs ys:List α}:((xs.length:Int) != (ys.length:Int)) = !decide (xs.length=ys.length):=by
 by_cases h:xs.length=ys.length
 ·simp[h]
 ·have:(xs.length:Int)≠(ys.length:Int):=by omega
  simp[h,this]
theorem JN {xs ys:List ac} (hl:xs.length≤1000000000):kF xs ys=some ((decide (xs=ys),()),()):=by
 rw[JK,YO]
 by_cases h:xs.length=ys.length
 ·rw[ba_ h,Z2 (by decide)]
  exact IY (d:=ak.dflt) (P:=fun i=>nL xs ys i) hl h.symm (fun i=>by rw[DW]; simp only[ZL]) xs ys [] [] rfl rfl rfl
 ·rw[bm_ h,Z3 (by rfl),bm_ (fun e=>h (ae_ _ e))]
abbrev fO:=Int×aw×Z0×aB×Int×Int×Unit
def pC (a:aB):Bool:=aA a.1 && (aA a.2.1 && (decide (a.1.1≤a.2.1.1) && decide (a.1.2.1≤a.2.1.2.1)))
def fG (e:fO):aB:=(e.2.1,(e.2.2.2.1.2.1.1+(e.2.1.1 - e.2.2.2.1.1.1),e.2.2.2.1.2.1.2.1+(e.2.1.2.1 - e.2.2.2.1.1.2.1),()),())
noncomputable def ut (s:List ac) (e:fO):List ac×Bool :=
 if pC e.2.2.2.1=true∧aA e.2.1=true∧aA (fG e).2.1=true then
  match ie e.2.2.2.1 (e.2.1.1 - e.2.2.2.1.1.1) (e.2.1.2.1 - e.2.2.2.1.1.2.1) s with
  | none=>([],false)
  | some q=>if(iv (dU (fG e) s) q).length≤120 then(iv (dU (fG e) s) q,true) else([],false)
 else([],false)
noncomputable def vv (s:List ac) (e:fO):List ac×Bool :=
 if bA e.2.2.2.2.1 1 99=true∧bA e.2.2.2.2.2.1 1 99=true then
  match cb e.2.2.2.2.1 e.2.2.2.2.2.1 (decide (e.1=4)) s with
  | none=>([],false)
  | some r=>(r,true)
 else([],false)
noncomputable def pD (s:List ac) (e:fO):List ac×Bool :=
 if e.1=1 then ur s e.2.1 e.2.2.1
 else if e.1=2 then(if pC e.2.2.2.1=true then(dU e.2.2.2.1 s,true) else([],false))
 else if e.1=3∨e.1=4 then vv s e
 else if e.1=5 then ut s e
 else([],false)
theorem YP {s:List ac} {r:aw} {x:Z0} (hx:x.size≤9223372036854775807) (h:(ur s r x).2=true):bd (ur s r x).1=true:=by
 unfold ur at h ⊢
 by_cases k:bd s=true∧aA r=true∧(fC x).2=true∧(fE s r (fC x).1).length≤120
 ·rw[Z3 k]
  exact N7 k.1 k.2.1 (fun hne=>(Xn hx k.2.2.1).resolve_left hne) k.2.2.2
 ·rw[Z2 k] at h
  cases h
theorem Pv : ∀ {q s:List ac},MH s→(∀ c∈q,aA c.1=true∧fo c.2.1=true)→MH (iv s q)
 | [],s,h,_=>h
 | c :: q,s,h,hq=>Pv (q:=q) (Xq h (hq c bn_).1 (fun _=>(hq c bn_).2)) (fun d hd=>hq d (af_ _ hd))
theorem MK {a:aB}:pC a=true↔aA a.1=true∧aA a.2.1=true∧a.1.1≤a.2.1.1∧a.1.2.1≤a.2.1.2.1:=by
 unfold pC
 simp only[Z8,Z9]
theorem YQ {s:List ac} {e:fO} (hs:bd s=true) (h:(ut s e).2=true):bd (ut s e).1=true:=by
 unfold ut at h ⊢
 by_cases k:pC e.2.2.2.1=true∧aA e.2.1=true∧aA (fG e).2.1=true
 ·rw[Z3 k] at h ⊢
  cases hq:ie e.2.2.2.1 (e.2.1.1 - e.2.2.2.1.1.1) (e.2.1.2.1 - e.2.2.2.1.1.2.1) s with
  | none=>rw[hq] at h; cases h
  | some q =>
   rw[hq] at h
   simp only at h ⊢
   by_cases hl:(iv (dU (fG e) s) q).length≤120
   ·rw[Z3 hl]
    refine MI (Pv (TX (Pt hs)) fun c hc => ?_) hl
    obtain⟨x,hx,g1,g2,g3⟩:=(uq hq).2 c hc
    refine⟨?_,Hj ((cR.1 hs).2.1 x hx).2 g3⟩
    rw[g2]
    have k2:=bK.1 k.2.1
    have k3:=bK.1 k.2.2
    unfold rO at g1
    rw[Z8,aH,aH] at g1
    unfold fG at k3
    unfold uo
    rw[bK]
    dsimp only at k3 ⊢
    omega
   ·rw[Z2 hl] at h
    cases h
 ·rw[Z2 k] at h
  cases h
theorem YR {s:List ac} {e:fO} (hx:e.2.2.1.size≤9223372036854775807) (hs:bd s=true) (h:(pD s e).2=true):bd (pD s e).1=true:=by
 unfold pD at h ⊢
 by_cases k1:e.1=1
 ·rw[Z3 k1] at h ⊢
  exact YP hx h
 ·rw[Z2 k1] at h ⊢
  by_cases k2:e.1=2
  ·rw[Z3 k2] at h ⊢
   by_cases ka:pC e.2.2.2.1=true
   ·rw[Z3 ka]
    exact Pt hs
   ·rw[Z2 ka] at h
    cases h
  ·rw[Z2 k2] at h ⊢
   by_cases k3:e.1=3∨e.1=4
   ·rw[Z3 k3] at h ⊢
    unfold vv at h ⊢
    by_cases kr:bA e.2.2.2.2.1 1 99=true∧bA e.2.2.2.2.2.1 1 99=true
    ·rw[Z3 kr] at h ⊢
     cases hr:cb e.2.2.2.2.1 e.2.2.2.2.2.1 (decide (e.1=4)) s with
     | none=>rw[hr] at h; cases h
     | some r =>
      have:=aH.1 kr.2
      exact Ef (by omega) hs hr
    ·rw[Z2 kr] at h
     cases h
   ·rw[Z2 k3] at h ⊢
    by_cases k5:e.1=5
    ·rw[Z3 k5] at h ⊢
     exact YQ hs h
    ·rw[Z2 k5] at h
     cases h
section
variable {s a:List ac} (hs:bd s=true) (ha:bd a=true)
include hs ha
end
def dE (a:aB) (c:ac):Bool:=bA c.1.1 a.1.1 a.2.1.1 && bA c.1.2.1 a.1.2.1 a.2.1.2.1
theorem nE (a:aB) (r:aw):gD a r=some ((bA r.1 a.1.1 a.2.1.1 && bA r.2.1 a.1.2.1 a.2.1.2.1,()),()):=by
 rw[A7]
 simp only[gl,Z1]
 cases bA r.1 a.1.1 a.2.1.1 <;> simp
theorem ML (c:ac) (e:fO):qM c e=some ((dE e.2.2.2.1 c,()),(e,())):=by
 rw[GX,nE]
 rfl
theorem Xt (c:ac) (e:fO):yv c e.1 e.2.1 e.2.2.1 e.2.2.2.1 e.2.2.2.2.1 e.2.2.2.2.2.1=some ((dE e.2.2.2.1 c,()),(e,())):=by
 rw[JE,nE]
 rfl
theorem Xu {s:List ac} {e:fO} (hl:s.length≤1000000000) : ∀(ys pre:List ac),s=pre++ys→cp s (s.length:Int) (pre.length:Int) e=some ((jc (dE e.2.2.2.1) ys pre.length,()),(e,())) :=
 ul (p:=dE e.2.2.2.1) (d:=ak.dflt) (F:=fun j=>some ((j,()),(e,()))) (s:=s) (P:=fun j=>cp s (s.length:Int) j e) (by omega) fun j=>by
  rw[kW]
  simp only[ML,Z1]
theorem Xv {s:List ac} {e:fO} (hl:s.length≤1000000000):eX s e.1 e.2.1 e.2.2.1 e.2.2.2.1 e.2.2.2.2.1 e.2.2.2.2.2.1=some ((jc (dE e.2.2.2.1) s 0,()),(e,())):=by
 rw[mH,lp]
 cases s with
 | nil=>rfl
 | cons c l =>
  have h2:=Xu (e:=e) hl l [c] rfl
  rw[aQ (by rw[aa_]; omega)]
  have hix : ∀ {β:Type} {F:ac→Option β},ix (c :: l) 0 ak.dflt F=F c:=fun {β F}=>bI (pre:=[]) (ys:=l) rfl
  rw[hix,Xt,Z1]
  dsimp only
  unfold jc
  by_cases h:dE e.2.2.2.1 c=true
  ·rw[Z3 h,Z3 h]
   rfl
  ·rw[Z2 h,Z2 h]
   exact h2
theorem Xw {s:List ac} {e:fO} (hl:s.length≤1000000000):ej s e.1 e.2.1 e.2.2.1 e.2.2.2.1 e.2.2.2.2.1 e.2.2.2.2.2.1=some ((dU e.2.2.2.1 s,()),(e,())):=by
 rw[lm,Xv hl,Z1]
 dsimp only
 have hc:dU e.2.2.2.1 s=s.filter fun c => !dE e.2.2.2.1 c:=rfl
 rw[hc]
 by_cases h:jc (dE e.2.2.2.1) s 0 = -1
 ·rw[h,Z3 (by rfl)]
  have:=Ct h
  have hf:(s.filter fun c => !dE e.2.2.2.1 c)=s:=ev_.2 fun c hc=>by
   have:=this c hc
   simpa using this
  rw[hf]
 ·obtain⟨pre,x,ys,h1,h2,h3,h4⟩:=Cu h
  rw[Z2 (by simpa using h),h4,Nat.zero_add]
  have hlen:pre.length+1+ys.length≤1000000000:=by rw[h1] at hl; simp at hl; omega
  have hd:=um (p:=dE e.2.2.2.1) (d:=ak.dflt) (P:=fun i j xs=>cd i j xs e) (F:=fun l=>some ((l,()),(e,()))) (fun i j xs=>by
   rw[kg]
   simp only[ML,Z1]) ys pre [x] (by simp only[Z4]; omega) (by simp)
  rw[wr (by omega) (by omega)]
  have e1:pre++[x]++ys=s:=by rw[h1]; simp
  have e2:((pre.length+[x].length:Nat):Int)=(pre.length:Int)+1:=by simp
  rw[e1,e2] at hd
  refine hd.trans ?_
  have e3:(s.filter fun c => !dE e.2.2.2.1 c)=pre++ys.filter fun c => !dE e.2.2.2.1 c:=by
   rw[h1,List.filter_append,List.filter_cons_of_neg (by simp[h2])]
   congr 1
   rw[ev_]
   intro c hc
   simpa using h3 c hc
  rw[e3]
theorem IZ {s:List ac} {a:aB} (hl:s.length≤1000000) {k:Int} {q:aw} {t:Z0} {m n:Int} : ∀(ys pre acc:List ac),s=pre++ys→acc.length≤pre.length→kT s (pre.length:Int) k q t a m n acc=some ((acc++dU a ys,true,()),())
 | [],pre,acc,h,_=>by
  rw[t8,aL (ci h)]
  simp[dU]
 | y :: ys,pre,acc,h,ha=>by
  have hlen:pre.length≤1000000:=by
   have:=ae_ ac_ h
   simp only[Z7,aa_] at this
   omega
  have ih:=fun acc' h'=>IZ (a:=a) hl (k:=k) (q:=q) (t:=t) (m:=m) (n:=n) ys (pre++[y]) acc' (aU h) h'
  have hw:lT y.1 a=some ((dE a y,()),()):=by
   rw[tR]
   simp only[eB,Z1]
   unfold dE
   cases bA y.1.1 a.1.1 a.2.1.1 <;> simp
  rw[t8,aQ (cr h),bI h,hw,Z1,bI h,bi h (by omega)]
  dsimp only
  have e:dU a (y :: ys)=(if dE a y=true then [] else [y])++dU a ys:=by
   unfold dU
   rw[ed_]
   show(if(!dE a y)=true then _ else _)=_
   cases dE a y <;> rfl
  cases hh:dE a y with
  | true =>
   rw[Z2 (by decide),ih acc (by simp only[Z7,Z4]; omega),e,hh]
   simp
  | false =>
   rw[Z3 (by rfl),bJ (by simp only[Z4]; omega),ih _ (by simp only[Z7,Z4]; omega),e,hh]
   simp
section
variable {s:List ac} {a:aB} (hs : ∀ c∈s,c.2.1.size≤9223372036854775807) (hl:s.length≤1000000)
include hs hl
end
theorem V1 {x:Z0} {f:List ab} (h:bm x=some f):(lb x).head? = some 61∧(eM (ba ((lb x).drop 1))).2=true∧f=(eM (ba ((lb x).drop 1))).1:=by
 unfold bm at h
 split at h
 ·rename_i k
  cases h
  exact⟨k.1,k.2,rfl⟩
 ·cases h
theorem J8 {x:Z0} (hx:x.size≤9223372036854775807):my x=some (((bm x).getD [],(bm x).isSome,()),()):=by
 have hl:(lb x).length≤9223372036854775807:=by rw[li]; exact hx
 have hc:cD x (⟨#[61]⟩:Z0)=some ((ba (if [61].isPrefixOf (lb x)=true then(lb x).drop 1 else lb x),[61].isPrefixOf (lb x),()),()):=by
  have:=rx (lb x) [61] hl
  rwa[fm] at this
 have hsz:(ba ((lb x).drop 1)).size≤9223372036854775807:=by
  rw[az,List.length_drop]
  omega
 have hp:List.isPrefixOf [61] (lb x)=decide ((lb x).head? = some 61):=by
  cases lb x with
  | nil=>rfl
  | cons b l =>
   by_cases h:b=61
   ·subst h
    rfl
   ·simp[List.isPrefixOf,h,Ne.symm h]
 rw[JF,hc,hp]
 simp only[Z1]
 unfold bm
 by_cases hb:(lb x).head? = some 61
 ·simp only[hb,decide_true,aj_,Z5,ad_,al_,true_and]
  rw[(nw hsz).2.1]
  simp only[Z1]
  cases hr:(eM (ba ((lb x).drop 1))).2 with
  | true=>rfl
  | false =>
   rw[(nw hsz).2.2.2 hr]
   rfl
 ·simp only[hb,ca_,as_,al_,false_and,ad_]
  rfl
theorem WB {x:Z0} (hx:x.size≤9223372036854775807):mz x=some (((bm x).getD [],(bm x).isSome,()),()):=by
 rw[JI]
 unfold bm
 cases hl':lb x with
 | nil =>
  have he:x=ba []:=by rw[←fm x,hl']
  have h2:(Z6 x == Z6 (⟨#[]⟩:Z0))=true:=by
   rw[he]
   have:(⟨#[]⟩:Z0)=ba []:=rfl
   rw[this,dn]
   simp
  rw[Z3 h2,Z2 (by simp)]
  rfl
 | cons b l =>
  have hx':x=ba (b :: l):=by rw[←hl',fm]
  subst hx'
  have hsz:(ba l).size≤9223372036854775807:=by
   rw[az] at hx ⊢
   simp only[aa_] at hx
   omega
  have he:(Z6 (ba (b :: l)) == Z6 (⟨#[]⟩:Z0))=false:=by
   have:(⟨#[]⟩:Z0)=ba []:=rfl
   rw[this,dn]
   simp
  rw[he,nu]
  simp only[Z5,ad_]
  by_cases hb:b=61
  ·subst hb
   rw[Z2 (by decide)]
   have hsl : ∀(k:Z0→Option ((List ab×(Bool×Unit))×Unit)),iJ (ba (61 :: l)) 1 k=k (ba l):=fun k=>by
    have:=fB (l:=61 :: l) (n:=1) (f:=k) (by simp)
    exact this
   rw[hsl,(nw hsz).1]
   simp only[Z1,cr_,true_and,List.drop_succ_cons,List.drop_zero]
   cases hr:(eM (ba l)).2 with
   | true=>rfl
   | false =>
    rw[(nw hsz).2.2.2 hr]
    rfl
  ·have hb':((b.toNat:Int) != 61)=true:=by
    rw[bne_iff_ne]
    intro h
    apply hb
    apply UInt8.toNat_inj.1
    have:((61:UInt8).toNat)=61:=rfl
    omega
   rw[Z3 hb']
   simp only[cr_,ap_,hb,false_and,ad_]
   rfl
def I0 (f:List ab):Bool:=decide (bL f≠[]∧(bL f).length < 200)
section
variable {f:List ab} (hf:dJ f=true)
include hf
theorem md:oz f=some ((ba (61 :: bL f),I0 f,()),()):=by
 have hs:=ny hf
 have hl:=Bw f
 rw[A6,(Ed (by omega) hs.2.1 hs.2.2).1]
 simp only[Z1]
 have hc : ∀(k:Z0→Option ((Z0×(Bool×Unit))×Unit)),cats (⟨#[61]⟩:Z0) (ba (bL f)) k=k (ba (61 :: bL f)):=fun k=>by
  have:=bB (a:=[61]) (b:=bL f) (f:=k) (by simp only[Z4]; omega)
  exact this
 rw[hc]
 have he:(Z6 (ba (bL f)) == Z6 (⟨#[]⟩:Z0))=decide (bL f=[]):=by
  have:(⟨#[]⟩:Z0)=ba []:=rfl
  rw[this,dn]
 rw[he,az]
 unfold I0
 by_cases h:bL f=[]
 ·simp[h]
 ·simp only[h,ca_,as_,al_,ne_eq,not_false_eq_true,true_and]
  have e:decide (((bL f).length:Int) < 200)=decide ((bL f).length < 200):=by
   rw[Bool.eq_iff_iff,Z9,Z9]
   omega
  rw[e]
theorem BF {b:Bool}:oA f b=some ((if b=true∧I0 f=true then ba (61 :: bL f) else eS,()),()):=by
 have hs:=ny hf
 have hl:=Bw f
 rw[Lz,(Ed (by omega) hs.2.1 hs.2.2).2]
 simp only[Z1]
 have hc : ∀(k:Z0→Option ((Z0×Unit)×Unit)),cats (⟨#[61]⟩:Z0) (ba (bL f)) k=k (ba (61 :: bL f)):=fun k=>by
  have:=bB (a:=[61]) (b:=bL f) (f:=k) (by simp only[Z4]; omega)
  exact this
 have he:(Z6 (ba (bL f)) == Z6 (⟨#[]⟩:Z0))=decide (bL f=[]):=by
  have:(⟨#[]⟩:Z0)=ba []:=rfl
  rw[this,dn]
 rw[he,hc,az,de (by omega) (by omega)]
 unfold I0
 cases b with
 | false=>simp
 | true =>
  by_cases h:bL f=[]
  ·simp[h]
  ·simp only[h,ca_,aj_,Z5,ad_,ne_eq,not_false_eq_true,true_and,Z9]
   by_cases h2:(bL f).length < 200
   ·rw[Z2 (by omega),Z3 h2]
   ·rw[Z3 (by omega),Z2 h2]
end
noncomputable def rY (g:ab→ab) (x:Z0):Z0×Bool:=match bm x with
 | none=>(x,true)
 | some f=>(ba (61 :: bL (f.map g)),I0 (f.map g))
theorem J9 (g:ab→ab) (x:Z0):mb g x=if(rY g x).2=true then some (rY g x).1 else none:=by
 unfold mb rY
 cases bm x with
 | none=>rfl
 | some f =>
  dsimp only
  unfold I0
  simp only[Z9]
section
variable {x:Z0} (hx:x.size≤9223372036854775807)
include hx
def wh (k:Int) (closed:Bool):Prop:=(k=3∧closed=false)∨(k=4∧closed=true)
theorem xH {e:fO} {closed:Bool} (hk:wh e.1 closed) (hr:1≤e.2.2.2.2.1∧e.2.2.2.2.1≤1000) (hm:0≤e.2.2.2.2.2.1∧e.2.2.2.2.2.1≤1000):en x e=some (((rY (cB e.2.2.2.2.1 e.2.2.2.2.2.1 closed) x).1,(rY (cB e.2.2.2.2.1 e.2.2.2.2.2.1 closed) x).2,()),(e,())):=by
 rw[uz,J8 hx]
 simp only[Z1]
 unfold rY
 cases hf:bm x with
 | none=>rfl
 | some f =>
  have hok:=fD hf hx
  have hok2:=qx (Bz e.2.2.2.2.1 e.2.2.2.2.2.1 closed) hok
  simp only[fu_,aj_,Z5,ad_,ch_]
  rw[LI]
  rcases hk with⟨hk,rfl⟩ | ⟨hk,rfl⟩
  ·rw[Z3 (by rw[hk]; rfl),Gf hok hr (by omega)]
   simp only[Z1,md hok2]
  ·rw[Z2 (by rw[hk]; decide),Gg hok hr hm]
   simp only[Z1,md hok2]
theorem Gj {e:fO} {closed:Bool} (hk:wh e.1 closed) (hr:1≤e.2.2.2.2.1∧e.2.2.2.2.1≤1000) (hm:0≤e.2.2.2.2.2.1∧e.2.2.2.2.2.1≤1000):eF x e.1 e.2.1 e.2.2.1 e.2.2.2.1 e.2.2.2.2.1 e.2.2.2.2.2.1=some (((rY (cB e.2.2.2.2.1 e.2.2.2.2.2.1 closed) x).1,(rY (cB e.2.2.2.2.1 e.2.2.2.2.2.1 closed) x).2,()),(e,())):=by
 rw[vV,J8 hx]
 simp only[Z1]
 unfold rY
 cases hf:bm x with
 | none=>rfl
 | some f =>
  have hok:=fD hf hx
  have hok2:=qx (Bz e.2.2.2.2.1 e.2.2.2.2.2.1 closed) hok
  simp only[fu_,aj_,Z5,ad_,ch_]
  rw[NG]
  rcases hk with⟨hk,rfl⟩ | ⟨hk,rfl⟩
  ·rw[Z3 (by rw[hk]; rfl),Gf hok hr (by omega)]
   simp only[Z1,md hok2]
  ·rw[Z2 (by rw[hk]; decide),Gg hok hr hm]
   simp only[Z1,md hok2]
theorem JO {c r:Int} (hc : -1000≤c∧c≤1000) (hr : -1000≤r∧r≤1000):kE x c r=some (((rY (k8 c r) x).1,(rY (k8 c r) x).2,()),(c,r,())):=by
 rw[uA,J8 hx]
 simp only[Z1]
 unfold rY
 cases hf:bm x with
 | none=>rfl
 | some f =>
  have hok:=fD hf hx
  have hok2:=qx (TO c r) hok
  simp only[fu_,aj_,Z5,ad_,ch_]
  rw[Lx,N5 hok hc hr]
  simp only[Z1,md hok2]
end
def gY (s:List ac) (i:Nat):aw:=(s.getD i ak.dflt).1
def cY (s:List ac) (i:Nat):Z0:=(s.getD i ak.dflt).2.1
noncomputable def MM (s:List ac) (i:Nat):List aB:=bu ((bm (cY s i)).getD [])
def xI (s:List ac) (ar:List aB):List Nat:=(bu_ s.length).filter fun k=>ar.any fun a=>jz a (gY s k)
noncomputable def cf (s:List ac) (i:Nat):List Nat:=xI s (MM s i)
def aW (s:List ac) (F:Nat→ae):List ap:=(bu_ s.length).map fun k=>(gY s k,F k,())
theorem Xx {s:List ac} {ar:List aB} {k:Nat}:k∈xI s ar↔k < s.length∧(ar.any fun a=>jz a (gY s k))=true:=by
 unfold xI
 rw[eq_,dy_]
theorem Ka {s:List ac} : ∀ i,∀ k∈cf s i,k∈bu_ s.length:=fun i k hk=>dy_.2 (Xx.1 hk).1
theorem MN (s:List ac) (ar:List aB) (F:Nat→ae):ma ar (aW s F)=(xI s ar).map fun k=>(gY s k,F k,()):=by
 unfold ma aW xI
 rw[List.filter_map]
 rfl
theorem YS {s:List ac} {ar:List aB} {F G:Nat→ae} (h : ∀ k∈xI s ar,F k=G k):ma ar (aW s F)=ma ar (aW s G):=by
 rw[MN,MN]
 exact ej_ fun k hk=>by rw[h k hk]
theorem T2 {f:List ab} {l m:List ap} (hf:dJ f=true) (h:ma (bu f) l=ma (bu f) m):fU f l=fU f m:=by
 rw[←Mw (l:=l) hf,←Mw (l:=m) hf,h]
theorem sD {s:List ac} {i:Nat} {f:List ab} {F G:Nat→ae} (hx:(cY s i).size≤9223372036854775807) (hf:bm (cY s i)=some f) (h : ∀ k∈cf s i,F k=G k):fU f (aW s F)=fU f (aW s G):=by
 refine T2 (fD hf hx) (YS fun k hk=>h k ?_)
 unfold cf MM
 rw[hf]
 exact hk
section
variable (s:List ac) (told:Nat→Bool) (given:Nat→ae)
def WC (i:Nat):Prop:=told i=true∨bm (cY s i)=none∨ey (cf s) i i
open Classical in
noncomputable def oi:Nat→Nat→ae
 | 0,_=>v0
 | n+1,i=>if told i=true then given i else match bm (cY s i) with
  | none=>(bk (lb (cY s i))).1
  | some f=>if ey (cf s) i i then vE 5 else fU f (aW s (oi n))
noncomputable def oj (i:Nat):ae:=oi s told given (s.length+1) i
variable {s told given}
theorem T3 {i:Nat} (h:WC s told i) (n m:Nat):oi s told given (n+1) i=oi s told given (m+1) i:=by
 unfold oi
 by_cases ht:told i=true
 ·rw[Z3 ht,Z3 ht]
 ·rw[Z2 ht,Z2 ht]
  cases hf:bm (cY s i) with
  | none=>rfl
  | some f =>
   by_cases hr:ey (cf s) i i
   ·simp only[Z3 hr]
   ·rcases h with h | h | h
    ·exact ay_ h ht
    ·rw[hf] at h; cases h
    ·exact ay_ h hr
open Classical in
theorem Pw {i k:Nat} (hk:k∈cf s i):1≤v6 (cf s) (bu_ s.length) i:=by
 unfold v6
 have:k∈(bu_ s.length).filter fun j=>decide (ey (cf s) i j):=eq_.2 ⟨Ka i k hk,by
  rw[Z9]
  exact .one hk⟩
 exact List.length_pos_of_mem this
theorem T4 (i:Nat):v6 (cf s) (bu_ s.length) i≤s.length:=by
 unfold v6
 refine bf_ (dl_ _ _) ?_
 rw[fc_]
 exact ag_ _
theorem T5 (hs : ∀ i,(cY s i).size≤9223372036854775807) {i n m:Nat} (ih : ∀ k∈cf s i,oi s told given n k=oi s told given m k):oi s told given (n+1) i=oi s told given (m+1) i:=by
 unfold oi
 by_cases ht:told i=true
 ·rw[Z3 ht,Z3 ht]
 ·rw[Z2 ht,Z2 ht]
  cases hf:bm (cY s i) with
  | none=>rfl
  | some f =>
   by_cases hr:ey (cf s) i i
   ·simp only[Z3 hr]
   ·simp only[Z2 hr]
    exact sD (hs i) hf ih
theorem Dg (hs : ∀ i,(cY s i).size≤9223372036854775807) : ∀(n m i:Nat),v6 (cf s) (bu_ s.length) i < n→v6 (cf s) (bu_ s.length) i < m→oi s told given n i=oi s told given m i
 | 0,_,_,h,_=>by omega
 | _+1,0,_,_,h=>by omega
 | n+1,m+1,i,hn,hm=>by
  refine T5 hs fun k hk => ?_
  have hp:=Pw hk
  by_cases hl:WC s told k
  ·obtain⟨n',rfl⟩ : ∃ n',n=n'+1:=⟨n - 1,by omega⟩
   obtain⟨m',rfl⟩ : ∃ m',m=m'+1:=⟨m - 1,by omega⟩
   exact T3 hl n' m'
  ·have hc:=S6 (N:=bu_ s.length) Ka hk fun hr=>hl (.inr (.inr hr))
   exact Dg hs n m k (by omega) (by omega)
open Classical in
theorem xJ (hs : ∀ i,(cY s i).size≤9223372036854775807) (i:Nat):oj s told given i=if told i=true then given i else match bm (cY s i) with
  | none=>(bk (lb (cY s i))).1
  | some f=>if ey (cf s) i i then vE 5 else fU f (aW s (oj s told given)):=by
 have h1:oj s told given i=oi s told given (s.length+2) i:=Dg hs _ _ i (by have:=T4 (s:=s) i; omega) (by have:=T4 (s:=s) i; omega)
 rw[h1]
 rfl
end
section
variable {α:Type}
theorem MO {p:α→Bool} : ∀(l:List α) (n:Nat),decide (jc p l n≥0)=l.any p
 | [],n=>by
  show decide ((-1:Int)≥0)=false
  decide
 | c :: l,n=>by
  unfold jc
  rw[List.any_cons]
  by_cases h:p c=true
  ·rw[Z3 h,h,Bool.true_or]
   exact ba_ (by omega)
  ·rw[Z2 h,MO l (n+1)]
   simp[h]
theorem T6 (l:List α) (d:α):(bu_ l.length).map (fun i=>l.getD i d)=l:=by
 apply List.ext_getElem
 ·simp
 ·intro i h1 h2
  simp[ak_,h2]
theorem sR {l:List α} {d:α} {i:Nat} (h:i < l.length):l[i]? = some (l.getD i d):=by
 rw[ak_,List.getElem?_eq_getElem h]
 rfl
theorem uu {l:List α} {d:α} {i:Nat} (h:i < l.length):l.getD i d∈l:=List.mem_of_getElem? (sR h)
end
theorem rz {α β:Type} {xs:List α} {i:Nat} {y d:α} {f:α→Option β} (h:xs[i]? = some y):ix xs (i:Int) d f=f y:=cP (nn _) h
section
variable {α:Type} [DecidableEq α]
end
theorem MP {f:List ab} (hf:f.length≤60) : ∀(ys pre:List ab) (acc:List aB),f=pre++ys→acc.length≤pre.length→lh f (f.length:Int) (pre.length:Int) acc=some ((acc++bu ys,()),())
 | [],pre,acc,h,ha=>by
  rw[xn,aL (ci h)]
  simp[bu]
 | y :: ys,pre,acc,h,ha=>by
  have hlen:pre.length≤60:=by
   have:=ae_ ac_ h
   simp only[Z7,aa_] at this
   omega
  have ih:=MP hf ys (pre++[y])
  rw[xn,aQ (cr h),bI h,bi h (by omega)]
  simp only[xw,Z1]
  have hsum:acc++[b9 y]++bu ys=acc++(b9 y :: bu ys):=by simp
  have happ:(acc.length+([b9 y]:List aB).length)*32≤140737488355328:=by simp only[Z4]; omega
  by_cases h2:y.1=2
  ·rw[Z3 (by simpa using h2),bJ happ,ih (acc++[b9 y]) (aU h) (by simp only[Z7,Z4]; omega),hsum]
   simp[bu,dT,h2]
  ·rw[Z2 (by simpa using h2)]
   by_cases h3:y.1=3
   ·rw[Z3 (by simpa using h3),bJ happ,ih (acc++[b9 y]) (aU h) (by simp only[Z7,Z4]; omega),hsum]
    simp[bu,dT,h3]
   ·rw[Z2 (by simpa using h3),ih acc (aU h) (by simp only[Z7,Z4]; omega)]
    simp[bu,dT,h2,h3]
theorem YT {f:List ab} (hl:f.length≤60):DL f=some ((bu f,()),()):=by
 rw[NP,show(0:Int)=(([]:List ab).length:Int) from rfl,MP hl f [] [] rfl (ag_ _)]
 rfl
theorem MQ {f:List ab} (hf:f.length≤60) : ∀(ys pre:List ab) (acc:List aB),f=pre++ys→acc.length≤pre.length→lg f (pre.length:Int) acc=some ((acc++bu ys,()),())
 | [],pre,acc,h,ha=>by
  rw[xm,aL (ci h)]
  simp[bu]
 | y :: ys,pre,acc,h,ha=>by
  have hlen:pre.length≤60:=by
   have:=ae_ ac_ h
   simp only[Z7,aa_] at this
   omega
  have ih:=MQ hf ys (pre++[y])
  rw[xm,aQ (cr h),bI h,bi h (by omega)]
  have hsum:acc++[b9 y]++bu ys=acc++(b9 y :: bu ys):=by simp
  have happ : ∀ a:aB,(acc.length+([a]:List aB).length)*32≤140737488355328:=fun a=>by simp only[Z4]; omega
  by_cases h2:y.1=2
  ·have ha2:(y.2.2.2.1.1,y.2.2.2.1.1,())=b9 y:=by unfold b9; rw[Z3 h2]
   rw[Z3 (by simpa using h2)]
   simp only[bI h]
   rw[ha2,bJ (happ _),ih (acc++[b9 y]) (aU h) (by simp only[Z7,Z4]; omega),hsum]
   simp[bu,dT,h2]
  ·have ha3:(y.2.2.2.1.1,y.2.2.2.2.1.1,())=b9 y:=by unfold b9; rw[Z2 h2]
   rw[Z2 (by simpa using h2)]
   by_cases h3:y.1=3
   ·rw[Z3 (by simpa using h3)]
    simp only[bI h]
    rw[ha3,bJ (happ _),ih (acc++[b9 y]) (aU h) (by simp only[Z7,Z4]; omega),hsum]
    simp[bu,dT,h3]
   ·rw[Z2 (by simpa using h3),ih acc (aU h) (by simp only[Z7,Z4]; omega)]
    simp[bu,dT,h2,h3]
theorem T7 {f:List ab} (hf:dJ f=true):yy f=some ((bu f,()),()):=by
 have hs:=ny hf
 have hl:=hs.1
 rw[NO,jo (f:=f) (by omega) hs.2.1 hs.2.2,hf]
 simp only[Z1,aj_,Z5,ad_]
 rw[show(0:Int)=(([]:List ab).length:Int) from rfl,MQ hl f [] [] rfl (ag_ _)]
 rfl
noncomputable def Px (x:Z0):List aB:=bu ((bm x).getD [])
theorem Rt (f:List ab):(bu f).length≤f.length:=by
 unfold bu
 rw[cn_]
 exact dl_ _ _
theorem Py {x:Z0} (hx:x.size≤9223372036854775807):((bm x).getD []).length≤60:=by
 cases h:bm x with
 | none=>exact de_ _
 | some f=>exact(ny (fD h hx)).1
theorem Xy {x:Z0} (hx:x.size≤9223372036854775807):(Px x).length≤60:=bf_ (Rt _) (Py hx)
theorem V2 {ar:List aB} {r:aw} (hl:ar.length≤1000000000):ca ar (ar.length:Int) 0 r=some ((jc (fun a=>jz a r) ar 0,()),(r,())):=by
 have:=ul (s:=ar) (d:=bC.dflt) (p:=fun a=>jz a r) (P:=fun j=>ca ar (ar.length:Int) j r) (F:=fun j=>some ((j,()),(r,()))) (by omega) (fun j=>by
  rw[gH]
  simp only[C2,Bk,Z1]) ar [] rfl
 exact this
theorem Xz {ar:List aB} {n i:Int} {r:aw}:eZ ar n i r.1 r.2.1=ca ar n i r:=by
 rw[mM,gH]
 simp only[QB,C2] <;> rfl
theorem V3 {ar:List aB} (r:aw) (hl:ar.length≤1000000000):PV ar r=some ((ar.any fun a=>jz a r,()),()):=by
 rw[Vc,mJ,ob,Xz,V2 hl]
 simp only[Z1,MO]
section
variable {s:List ac} (hl:s.length≤1000000) {ar:List aB} (ha:ar.length≤1000000)
include hl ha
end
theorem T8 {s pre ys:List ac} {y:ac} (h:s=pre++y :: ys):gY s pre.length=y.1:=by
 unfold gY
 rw[h,ak_]
 simp
noncomputable def gF (s:List ac):List (List ab):=s.map fun c=>(bm c.2.1).getD []
noncomputable def gL (s:List ac):List (List Int):=s.map fun c=>(xI s (Px c.2.1)).map fun k:Nat=>(k:Int)
noncomputable def gr (s:List ac):List ac×(List (List ab)×(List (List Int)×Unit)):=(s,gF s,gL s,())
theorem WD {s:List ac} {i:Nat} (h:i < s.length):(gF s)[i]? = some ((bm (cY s i)).getD []):=by
 unfold gF
 rw[eh_,sR (d:=ak.dflt) h]
 rfl
theorem Ru {s:List ac} {i:Nat} (h:i < s.length):(gL s)[i]? = some ((cf s i).map fun k:Nat=>(k:Int)):=by
 unfold gL
 rw[eh_,sR (d:=ak.dflt) h]
 rfl
theorem Hs (s:List ac) (ar:List aB):(xI s ar).length≤s.length:=by
 unfold xI
 have:=dl_ (fun k=>ar.any fun a=>jz a (gY s k)) (bu_ s.length)
 rw[fc_] at this
 exact this
section
variable {s:List ac} (hl:s.length≤1000000) (hs : ∀ c∈s,c.2.1.size≤9223372036854775807)
include hl
theorem MR {x0 x1:List ac} {x2 x3:Int} {x7 x11:List ac} {x12 x14:List (List ab)} {x13 x15:List (List Int)} {f:List ab} {ar:List aB} (ha:ar.length≤1000000) : ∀(ys pre:List ac) (acc:List Int),s=pre++ys→acc.length≤pre.length →
  lY x0 x1 x2 x3 s (s.length:Int) (pre.length:Int) x7 f ar acc x11 x12 x13 x14 x15=app x14 [f] 24 fun y3=>app x15 [acc++((List.range' pre.length ys.length).filter fun k=>ar.any fun a=>jz a (gY s k)).map fun k:Nat=>(k:Int)] 24 fun y4=>lV x0 x1 x2 (gt_ gu_ (x3+1)) x7 x11 x12 x13 y3 y4
 | [],pre,acc,h,hb=>by
  rw[vb,aL (ci h)]
  simp
 | y :: ys,pre,acc,h,hb=>by
  have hlen:s.length=pre.length+(ys.length+1):=by rw[h]; simp
  have ih:=MR (x0:=x0) (x1:=x1) (x2:=x2) (x3:=x3) (x7:=x7) (x11:=x11) (x12:=x12) (x13:=x13) (x14:=x14) (x15:=x15) (f:=f) ha ys (pre++[y])
  have e0:(pre++[y]).length=pre.length+1:=by simp
  rw[vb,aQ (cr h),bI h,V3 _ (by omega),Z1,bi h (by omega)]
  rw[aa_,List.range'_succ,ed_,T8 h]
  rw[e0] at ih
  dsimp only
  by_cases c:(ar.any fun a=>jz a y.1)=true
  ·rw[Z3 c,Z3 c,bJ (by simp only[Z4]; omega),e0,ih _ (aU h) (by simp only[Z7,Z4]; omega)]
   simp
  ·rw[Z2 c,Z2 c,e0,ih _ (aU h) (by omega)]
include hs
theorem I3 : ∀(ys pre:List ac) (fs:List (List ab)) (ls:List (List Int)),s=pre++ys→fs.length=pre.length→ls.length=pre.length →
  lV s s (s.length:Int) (pre.length:Int) s [] [] [] fs ls=some (((s,fs++ys.map (fun c=>(bm c.2.1).getD []),ls++ys.map (fun c=>(xI s (Px c.2.1)).map fun k:Nat=>(k:Int)),()),()),())
 | [],pre,fs,ls,h,h1,h2=>by
  rw[u4,aL (ci h)]
  simp
 | y :: ys,pre,fs,ls,h,h1,h2=>by
  have hlen:s.length=pre.length+(ys.length+1):=by rw[h]; simp
  have hy:y.2.1.size≤9223372036854775807:=hs y (by rw[h]; simp)
  have h3:=Xy hy
  have hg:=MR hl (x0:=s) (x1:=s) (x2:=(s.length:Int)) (x3:=(pre.length:Int)) (x7:=s) (x11:=[]) (x12:=[]) (x13:=[]) (x14:=fs) (x15:=ls) (f:=(bm y.2.1).getD []) (ar:=Px y.2.1) (by omega) s [] [] rfl (ag_ _)
  rw[u4,aQ (cr h),bI h,J8 hy,Z1,YT (Py hy),Z1]
  refine hg.trans ?_
  rw[bJ (by simp only[Z4]; omega),bJ (by simp only[Z4]; omega),bi h (by omega),I3 ys _ _ _ (aU h) (by simp[h1]) (by simp[h2])]
  have e:((List.range' ([]:List ac).length s.length).filter fun k=>(Px y.2.1).any fun a=>jz a (gY s k))=xI s (Px y.2.1):=by
   unfold xI
   rw[List.range_eq_range']
   rfl
  rw[e]
  simp
theorem MS:AX s=some ((gr s,()),()):=by
 rw[LA]
 exact I3 hl hs s [] [] [] rfl rfl rfl
end
open Classical in
noncomputable def zk (s:List ac) (i:Nat):Bool:=decide (ey (cf s) i i)
open Classical in
theorem kN {s:List ac} {i:Nat}:zk s i=true↔ey (cf s) i i:=by
 unfold zk
 exact⟨fun h=>of_decide_eq_true h,fun h=>ba_ h⟩
theorem sS : ∀(l:List Bool) (i:Nat),i < l.length→l.getD i false=false→(l.set i true).count false+1=l.count false
 | [],i,h,_=>by simp at h
 | b :: l,0,_,e=>by
  have e:b=false:=e
  subst e
  simp
 | b :: l,i+1,h,e=>by
  have:=sS l i (by simpa using h) e
  rw[List.set_cons_succ,List.count_cons,List.count_cons]
  omega
theorem qz (l:List Bool) (i k:Nat) (h:i < l.length):(l.set i true).getD k false=if k=i then true else l.getD k false:=by
 rw[ak_,ak_,List.getElem?_set]
 by_cases e:k=i
 ·subst e
  simp[h]
 ·rw[Z2 (fun x=>e x.symm),Z2 e]
theorem uv {s:List ac} {i k:Nat} (h:k∈cf s i):k < s.length:=dy_.1 (Ka i k h)
theorem ey.lt {s:List ac} {i k:Nat} (h:ey (cf s) i k):k < s.length:=by
 cases h with
 | one e=>exact uv e
 | more _ e=>exact uv e
section
variable {s:List ac} (hn:s.length≤120)
include hn
theorem wi {a:Nat} (ha:a < s.length) : ∀(m:Nat) (met:List Bool) (pre ys:List Nat),met.length=s.length→(∀ k∈pre++ys,k < s.length∧ey (cf s) a k)→(∀ k∈cf s a,k∈pre++ys)→(∀ k∈pre,k≠a)→(∀ k∈pre,met.getD k false=true)→(∀ k,met.getD k false=true → ∀ j∈cf s k,j∈pre++ys) →
  met.count false*120+ys.length≤m→met.count false*120+pre.length+ys.length≤20000→gd (a:Int) (pre.length:Int) s (gF s) (gL s) met ((pre++ys).map fun k:Nat=>(k:Int))=some ((zk s a,()),())
 | m,met,pre,[],h0,h1,h2,h3,h4,h5,hm,hb=>by
  have e:zk s a=false:=by
   rw[bt_,ne_eq,kN]
   intro h
   have:=ey.closed (Q:=fun k=>k∈pre) (fun k hk=>by simpa using h2 k hk) (fun j hj k hk=>by simpa using h5 j (h4 j hj) k hk) h
   exact h3 _ this rfl
  rw[pM,aL (by simp),e]
 | 0,met,pre,y :: ys,h0,h1,h2,h3,h4,h5,hm,hb=>by
  rw[aa_] at hm
  omega
 | m+1,met,pre,y :: ys,h0,h1,h2,h3,h4,h5,hm,hb=>by
  rw[aa_] at hm hb
  obtain⟨hy,hr⟩:=h1 y (by simp)
  have hg:aw_ ((pre++y :: ys).map fun k:Nat=>(k:Int)) (an_ (pre.length:Int)) 0=(y:Int):=by
   rw[ak_]
   simp
  have hlt:(pre.length:Int) < (((pre++y :: ys).map fun k:Nat=>(k:Int)).length:Int):=by
   simp only[cn_,Z7,aa_]
   omega
  have hw:IntKind.i64.wrap ((pre.length:Int)+1)=((pre++[y]).length:Int):=by
   rw[de (by omega) (by omega)]
   simp
  have hmet:an_ (y:Int)=y:=rfl
  rw[pM,aQ hlt,dx (nn _) hlt,hg]
  by_cases e:y=a
  ·subst e
   rw[Z3 (beq_self_eq_true _),kN.2 hr]
  ·rw[Z2 (by rw[beq_iff_eq]; omega),dx (xs:=met) (nn _) (by omega),hmet]
   by_cases hc:met.getD y false=true
   ·rw[hc,Z2 (by decide),hw,show pre++y :: ys=(pre++[y])++ys by simp]
    refine wi ha m met (pre++[y]) ys h0 (fun k hk=>h1 k (by simpa using hk)) (fun k hk=>by simpa using h2 k hk) (fun k hk => ?_) (fun k hk => ?_) (fun k hk j hj=>by simpa using h5 k hk j hj) (by omega) (by simp only[Z7,Z4]; omega)
    ·rcases bx_.1 hk with hk | hk
     ·exact h3 k hk
     ·rw[bc_.1 hk]
      exact e
    ·rcases bx_.1 hk with hk | hk
     ·exact h4 k hk
     ·rw[bc_.1 hk]
      exact hc
   ·have hc:met.getD y false=false:=by simpa using hc
    have hcs:=sS met y (by omega) hc
    have hil:=Hs s (MM s y)
    have hil:(cf s y).length≤s.length:=hil
    rw[hc,Z3 (by decide),dx (xs:=met) (nn _) (by omega),rz (Ru hy),bJ (by simp only[cn_,Z7,aa_]; omega),hw]
    have eq:((pre++y :: ys).map fun k:Nat=>(k:Int))++((cf s y).map fun k:Nat=>(k:Int))=(((pre++[y])++(ys++cf s y)).map fun k:Nat=>(k:Int)):=by simp
    have em : ∀ k,k∈(pre++[y])++(ys++cf s y)↔k∈pre++y :: ys∨k∈cf s y:=fun k=>by simp[or_assoc]
    rw[eq]
    refine wi ha m (met.set y true) (pre++[y]) (ys++cf s y) (by rw[ec_]; exact h0) (fun k hk => ?_) (fun k hk=>(em k).2 (.inl (h2 k hk))) (fun k hk => ?_) (fun k hk => ?_) (fun k hk j hj => ?_) (by rw[Z7]; omega) (by simp only[Z7,Z4]; omega)
    ·rcases(em k).1 hk with hk | hk
     ·exact h1 k hk
     ·exact⟨uv hk,.more hr hk⟩
    ·rcases bx_.1 hk with hk | hk
     ·exact h3 k hk
     ·rw[bc_.1 hk]
      exact e
    ·rw[qz _ _ _ (by omega)]
     rcases bx_.1 hk with hk | hk
     ·rw[h4 k hk]
      split <;> rfl
     ·rw[bc_.1 hk,Z3 rfl]
    ·rw[qz _ _ _ (by omega)] at hk
     rw[em]
     by_cases ek:k=y
     ·subst ek
      exact .inr hj
     ·rw[Z2 ek] at hk
      exact .inl (h5 k hk j hj)
theorem Rv {l:List Int} (h:l.length≤1000000):gj l=some ((l,()),()):=by
 rw[so]
 unfold ce
 simp only[im?,dite_true,Z1]
 exact Z3 (by omega)
theorem T9 {a:Nat} (ha:a < s.length):kP (gr s) (a:Int)=some ((zk s a,()),()):=by
 have hil:(cf s a).length≤s.length:=Hs s (MM s a)
 rw[DS]
 show(HK (s.length:Int) 1 false fun y1=>(ix (gL s) (a:Int) ([]:(List Int)) fun y2=>((gj y2).bind fun z1=>(gd (a:Int) 0 s (gF s) (gL s) y1 z1.1.1))))=_
 rw[Fg (by omega),rz (Ru ha),Rv hn (by rw[cn_]; omega),Z1]
 have hc:(az_ s.length false).count false=s.length:=by simp
 refine wi hn ha (s.length*120+120) (az_ s.length false) [] (cf s a) (by simp) (fun k hk => ?_) (fun k hk=>by simpa using hk) (fun k hk=>by cases hk) (fun k hk=>by cases hk) (fun k hk j hj => ?_) (by omega) (by rw[hc,bg_]; omega)
 ·have hk:k∈cf s a:=by simpa using hk
  exact⟨uv hk,.one hk⟩
 ·rw[ak_,List.getElem?_replicate] at hk
  split at hk <;> cases hk
end
section
variable {s:List ac} (hs:bd s=true)
include hs
end
theorem ig (s:List ac) (F:Nat→ae):(aW s F).length=s.length:=by
 unfold aW
 rw[cn_,fc_]
theorem uw {s:List ac} {F:Nat→ae} {i:Nat} (h:i < s.length):(aW s F)[i]? = some (gY s i,F i,()):=by
 unfold aW
 rw[eh_,List.getElem?_range h]
 rfl
theorem I4 {s:List ac} {F:Nat→ae} {i:Nat} (h:i < s.length) (d:ap):(aW s F).getD i d=(gY s i,F i,()):=by
 rw[ak_,uw h]
 rfl
theorem Ua {s:List ac} {F G:Nat→ae} (h : ∀ k,k < s.length→F k=G k):aW s F=aW s G:=by
 unfold aW
 refine ej_ fun k hk => ?_
 rw[h k (dy_.1 hk)]
def zM (F:Nat→ae) (i:Nat) (v:ae):Nat→ae:=fun k=>if k=i then v else F k
theorem V4 {s:List ac} {F:Nat→ae} {i:Nat} (v:ae) (h:i < s.length):(aW s F).set i (gY s i,v,())=aW s (zM F i v):=by
 apply List.ext_getElem?
 intro k
 rw[List.getElem?_set,ig]
 by_cases e:i=k
 ·subst e
  rw[Z3 rfl,Z3 h,uw h]
  unfold zM
  rw[Z3 rfl]
 ·rw[Z2 e]
  by_cases hk:k < s.length
  ·rw[uw hk,uw hk]
   unfold zM
   rw[Z2 (fun x=>e x.symm)]
  ·rw[cb_ (by rw[ig]; omega),cb_ (by rw[ig]; omega)]
theorem Eh {β:Type} {s:List ac} {F:Nat→ae} {i:Nat} (v:ae) (h:i < s.length) (k:List ap→β):rB ao.dflt (aW s F) (i:Int) (fun e=>(e.1,v,())) k=k (aW s (zM F i v)):=by
 unfold rB
 rw[dd_,I4 h,V4 v h]
theorem Dh (s:List ac) (F:Nat→ae):(aW s F).map (·.1)=s.map (·.1):=by
 have key : ∀ t:List ac,(bu_ s.length).map (fun i=>s.getD i ak.dflt)=t→(aW s F).map (·.1)=t.map (·.1):=by
  rintro _ rfl
  unfold aW
  rw[fj_,fj_]
  rfl
 exact key s (T6 s _)
theorem sE {s:List ac} {F:Nat→ae} (hs:bd s=true) (hF : ∀ k,k < s.length→au (F k)=true):oc (aW s F)=true:=by
 have h1:=cS hs
 have h2:=qV hs
 have h3:=(cR.1 hs).2.1
 unfold oc
 rw[Z8,Z8,Z9,List.all_eq_true,ig,Dh]
 refine⟨by omega,fun c hc => ?_,TA ?_ (fun a e=>by cases e)⟩
 ·unfold aW at hc
  obtain⟨k,hk,rfl⟩:=List.mem_map.1 hc
  have hk:=dy_.1 hk
  rw[Z8]
  exact⟨(h3 _ (uu hk)).1,hF k hk⟩
 ·exact List.Pairwise.map _ (fun a b h=>h) h2
theorem Ub (w:ag):au (bk w).1=true:=by
 cases h:(bk w).2 with
 | true=>exact(od h).1
 | false =>
  rw[L5 h]
  exact LR
theorem I5 {f:List ab} {l:List ap} (h1:dJ f=true) (h2:oc l=true):au (fU f l)=true:=by
 have hs:=ny h1
 have hll:l.length≤120:=by
  unfold oc at h2
  simp only[Z8,Z9] at h2
  omega
 have hv:=vi h2
 have hl:=hs.1
 obtain⟨_,e3⟩:=O6 (f:=f) (l:=l) (by omega) (fun c hc=>bf_ (eU (hv c hc)) (by decide)) (by omega) hs.2.1 hs.2.2 h1 h2
 unfold fU
 dsimp only
 split
 ·decide
 ·exact e3
theorem Gk {α β:Type} {xs:List α} {i:Int} {k:Option β} (h : ¬(0≤i∧i < (xs.length:Int))):inb xs i k=none:=by
 unfold inb
 by_cases h0:0≤i
 ·rw[Z3 h0,Z2 fun h1=>h ⟨h0,h1⟩]
 ·rw[Z2 h0]
theorem Uc (g:List ac×(List (List ab)×(List (List Int)×Unit))) : ∀(n:Nat) (i:Int) (done:List Bool) (out:List ap),done.count false≤n→cN i g.1 g.2.1 g.2.2.1 done out=bE i g done out:=by
 intro n
 induction n with
 | zero =>
  intro i done out hc
  rw[gV,cq]
  by_cases hin:0≤i∧i < (done.length:Int)
  ·simp only[dx hin.1 hin.2]
   by_cases hd:aw_ done i.toNat false=true
   ·rw[Z3 hd,Z3 hd]
   ·have:=sS done i.toNat (by omega) (by simpa using hd)
    omega
  ·rw[Gk hin,Gk hin]
 | succ n ih =>
  intro i done out hc
  rw[gV,cq]
  by_cases hin:0≤i∧i < (done.length:Int)
  ·simp only[dx hin.1 hin.2]
   by_cases hd:aw_ done i.toNat false=true
   ·rw[Z3 hd,Z3 hd]
   ·have hcs:=sS done i.toNat (by omega) (by simpa using hd)
    have key : ∀ y5:List Int,ep i y5 (y5.length:Int) 0 g.1 g.2.1 g.2.2.1 (done.set i.toNat true) out=cn i y5 (y5.length:Int) 0 g (done.set i.toNat true) out:=by
     intro y5
     rw[lq,fM]
     have k2 : ∀ y,cN y g.1 g.2.1 g.2.2.1 (done.set i.toNat true) out=bE y g (done.set i.toNat true) out:=fun y=>ih y _ out (by omega)
     simp only[k2]
    simp only[key]
  ·rw[Gk hin,Gk hin]
theorem XA {x0:Int} {x1:List Int} {x2 x3:Int} {g:List ac×(List (List ab)×(List (List Int)×Unit))} {done:List Bool} {out:List ap}:cn x0 x1 x2 x3 g done out=bT x0 x1 x2 x3 g done out:=by
 rw[fM,dI]
section
variable {s:List ac} (hs:bd s=true) {told:Nat→Bool} {given:Nat→ae}
include hs
theorem fa (i:Nat):(cY s i).size≤9223372036854775807:=by
 by_cases h:i < s.length
 ·exact bf_ (mc hs _ (uu h)) (by decide)
 ·unfold cY
  rw[ak_,cb_ (by omega)]
  decide
structure Ei (s:List ac) (told:Nat→Bool) (given:Nat→ae) (P:Nat→Prop) (done:List Bool) (F:Nat→ae):Prop where
 len:done.length=s.length
 val : ∀ k,k < s.length→done.getD k false=true→P k∨F k=oj s told given k
 ok : ∀ k,k < s.length→au (F k)=true
 told : ∀ k,k < s.length→told k=true→done.getD k false=true
structure zl (s:List ac) (done done':List Bool):Prop where
 cnt:done'.count false≤done.count false
 mono : ∀ k,done.getD k false=true→done'.getD k false=true
omit hs in
theorem zl.trans {s:List ac} {a b c:List Bool} (h:zl s a b) (k:zl s b c):zl s a c:=⟨bf_ k.cnt h.cnt,fun j hj=>k.mono j (h.mono j hj)⟩
def YU (s:List ac) (told:Nat→Bool) (given:Nat→ae) (n:Nat):Prop := ∀(i:Nat) (P:Nat→Prop) (done:List Bool) (F:Nat→ae),i < s.length→Ei s told given P done F→(∀ p,P p → ¬ey (cf s) p p∧ey (cf s) p i)→done.count false≤n →
 ∃ done' F',bE (i:Int) (gr s) done (aW s F)=some ((()),(done',gr s,aW s F',()))∧Ei s told given P done' F'∧zl s done done'∧done'.getD i false=true
theorem V5 {f:List ab} {F:Nat→ae} {i:Nat} (hf:bm (cY s i)=some f) (ho : ∀ k,k < s.length→au (F k)=true) (h : ∀ k∈cf s i,F k=oj s told given k) (ht:told i=false) (hr : ¬ey (cf s) i i):uR f (aW s F)=some ((oj s told given i,()),()):=by
 have hok:=fD hf (fa hs i)
 have hsm:=ny hok
 have hl:=hsm.1
 have hn:=cS hs
 have hv:=sE hs ho
 have e:fU f (aW s F)=oj s told given i:=by
  rw[sD (fa hs i) hf h,xJ (fa hs) i,Z2 (by simp[ht]),hf]
  simp only[Z2 hr]
 rw[Vv (by rw[ig]; omega) (fun c hc=>bf_ (eU (vi hv c hc)) (by decide)) (by omega) hsm.2.1 hsm.2.2 hok hv,e]
theorem I6 {n:Nat} (R:YU s told given n) {i:Nat} (hi:i < s.length) {f:List ab} (hf:bm (cY s i)=some f) (hr : ¬ey (cf s) i i) (ht:told i=false) {P:Nat→Prop} (hP : ∀ p,P p → ¬ey (cf s) p p∧ey (cf s) p i) :
  ∀(ys pre:List Nat) (done:List Bool) (F:Nat→ae),cf s i=pre++ys→Ei s told given (fun k=>P k∨k=i) done F→done.count false≤n→(∀ k∈pre,done.getD k false=true)→done.getD i false=true →
  ∃ done' F',bT (i:Int) ((cf s i).map fun k:Nat=>(k:Int)) ((cf s i).length:Int) (pre.length:Int) (gr s) done (aW s F)=some ((()),(done',gr s,aW s F',()))∧Ei s told given P done' F'∧zl s done done'∧done'.getD i false=true
 | [],pre,done,F,h,hI,hc,hp,hdi=>by
  have hpre:cf s i=pre:=by rw[h]; simp
  have hval : ∀ k∈cf s i,F k=oj s told given k:=by
   intro k hk
   have hk':k∈pre:=hpre ▸ hk
   rcases hI.val k (uv hk) (hp k hk') with(e | e) | e
   ·exact ay_ (ey.more (hP k e).2 hk) (hP k e).1
   ·rw[e] at hk
    exact ay_ (ey.one hk) hr
   ·exact e
  have hev:=V5 hs hf hI.ok hval ht hr
  have hv:au (oj s told given i)=true:=by
   have:=I5 (fD hf (fa hs i)) (sE hs hI.ok)
   rw[sD (fa hs i) hf hval] at this
   rw[xJ (fa hs) i,Z2 (by simp[ht]),hf]
   simp only[Z2 hr]
   exact this
  refine⟨done,zM F i (oj s told given i),?_,⟨hI.len,fun k hk hd => ?_,fun k hk => ?_,hI.told⟩,⟨ag_ _,fun _ h=>h⟩,hdi⟩
  ·rw[dI,aL (by rw[hpre]; omega)]
   show(ix (gF s) (i:Int) ([]:(List ab)) fun y2=>((uR y2 (aW s F)).bind fun z2=>(inb (aW s F) (i:Int) (rB (ao.dflt) (aW s F) (i:Int) (fun e=>(e.1,z2.1.1,())) fun w3=>(some ((()),(done,gr s,w3,())))))))=_
   rw[rz (WD hi),hf]
   show((uR f (aW s F)).bind fun z2=>_)=_
   rw[hev,Z1,dx (nn _) (by rw[ig]; omega),Eh _ hi]
  ·unfold zM
   by_cases e:k=i
   ·rw[Z3 e,e]
    exact .inr rfl
   ·rw[Z2 e]
    rcases hI.val k hk hd with(h1 | h1) | h1
    ·exact .inl h1
    ·exact ay_ h1 e
    ·exact .inr h1
  ·unfold zM
   by_cases e:k=i
   ·rw[Z3 e]
    exact hv
   ·rw[Z2 e]
    exact hI.ok k hk
 | y :: ys,pre,done,F,h,hI,hc,hp,hdi=>by
  have hy:y∈cf s i:=by rw[h]; simp
  have hyl:=uv hy
  have hil:(cf s i).length≤s.length:=Hs s (MM s i)
  have hn:=cS hs
  have hlt:((pre.length:Nat):Int) < ((cf s i).length:Int):=cr h
  have hw:IntKind.i64.wrap ((pre.length:Int)+1)=((pre++[y]).length:Int):=bi h (by omega)
  have hg:((cf s i).map fun k:Nat=>(k:Int))[pre.length]? = some (y:Int):=by
   rw[h]
   simp
  obtain⟨done1,F1,e1,I1,N1,d1⟩:=R y (fun k=>P k∨k=i) done F hyl hI (fun p hp'=>by
   rcases hp' with hp' | hp'
   ·exact⟨(hP p hp').1,.more (hP p hp').2 hy⟩
   ·rw[hp']
    exact⟨hr,.one hy⟩) hc
  obtain⟨done2,F2,e2,I2,N2,d2⟩:=I6 R hi hf hr ht hP ys (pre++[y]) done1 F1 (aU h) I1 (bf_ N1.cnt hc) (fun k hk=>by
   rcases bx_.1 hk with hk | hk
   ·exact N1.mono k (hp k hk)
   ·rw[bc_.1 hk]
    exact d1) (N1.mono i hdi)
  refine⟨done2,F2,?_,I2,N1.trans N2,d2⟩
  rw[dI,aQ hlt,rz hg,e1,Z1,hw]
  exact e2
theorem V6 : ∀ n:Nat,YU s told given n:=by
 intro n
 induction n with
 | zero =>
  intro i P done F hi hI hP hc
  by_cases hd:done.getD i false=true
  ·refine⟨done,F,?_,hI,⟨ag_ _,fun _ h=>h⟩,hd⟩
   rw[cq,dx (nn _) (by rw[hI.len]; omega),dd_,Z3 hd]
  ·have:=sS done i (by rw[hI.len]; exact hi) (by simpa using hd)
   omega
 | succ n R =>
  intro i P done F hi hI hP hc
  by_cases hd:done.getD i false=true
  ·refine⟨done,F,?_,hI,⟨ag_ _,fun _ h=>h⟩,hd⟩
   rw[cq,dx (nn _) (by rw[hI.len]; omega),dd_,Z3 hd]
  ·have hil:i < done.length:=by rw[hI.len]; exact hi
   have hd':done.getD i false=false:=by simpa using hd
   have hcs:=sS done i hil hd'
   have ht:told i=false:=by
    rw[bt_]
    intro h
    exact hd (hI.told i hi h)
   have hset:(done.set i true).getD i false=true:=by rw[qz _ _ _ hil,Z3 rfl]
   have hnext:zl s done (done.set i true):=⟨by omega,fun k hk=>by
    rw[qz _ _ _ hil]
    split
    ·rfl
    ·exact hk⟩
   have hstep : ∀ v,au v=true→v=oj s told given i→Ei s told given P (done.set i true) (zM F i v):=by
    intro v hv ev
    refine⟨by rw[ec_]; exact hI.len,fun k hk hdk => ?_,fun k hk => ?_,fun k hk htk=>hnext.mono k (hI.told k hk htk)⟩
    ·unfold zM
     rw[qz _ _ _ hil] at hdk
     by_cases e:k=i
     ·rw[Z3 e,e]
      exact .inr ev
     ·rw[Z2 e] at hdk ⊢
      exact hI.val k hk hdk
    ·unfold zM
     by_cases e:k=i
     ·rw[Z3 e]
      exact hv
     ·rw[Z2 e]
      exact hI.ok k hk
   have hve:=xJ (told:=told) (given:=given) (fa hs) i
   rw[Z2 (by simp[ht])] at hve
   have heq:bE (i:Int) (gr s) done (aW s F)=ix (gF s) (i:Int) ([]:(List ab)) fun y1=>(if((ac_ y1:Int) == 0)=true then(ix s (i:Int) (ak.dflt) fun y2=>((eR y2.2.1).bind fun z1=>(inb (aW s F) (i:Int) (rB (ao.dflt) (aW s F) (i:Int) (fun e=>(e.1,z1.1.1,())) fun w3=>(some ((()),((ee_ done i true),gr s,w3,()))))))) else((kP (gr s) (i:Int)).bind fun z2=>(if z2.1.1=true then((dG 5).bind fun z3=>(inb (aW s F) (i:Int) (rB (ao.dflt) (aW s F) (i:Int) (fun e=>(e.1,z3.1.1,())) fun w4=>(some ((()),((ee_ done i true),gr s,w4,())))))) else(ix (gL s) (i:Int) ([]:(List Int)) fun y5=>(cn (i:Int) y5 (ac_ y5:Int) 0 (gr s) (ee_ done i true) (aW s F)))))):=by
    rw[cq,dx (nn _) (by omega),dd_,hd',Z2 (by decide),dx (nn _) (by omega)]
    rfl
   rw[heq,rz (WD hi)]
   cases hf:bm (cY s i) with
   | none =>
    rw[hf] at hve
    have hsz:=fa hs i
    have hsz2:(cY s i).size≤200:=mc hs _ (uu hi)
    have hrv:eR (cY s i)=some (((bk (lb (cY s i))).1,(bk (lb (cY s i))).2,()),()):=by
     have:=nS (w:=lb (cY s i)) (by rw[li]; omega)
     rw[fm] at this
     exact this
    refine⟨done.set i true,zM F i (bk (lb (cY s i))).1,?_,hstep _ (Ub _) hve.symm,hnext,hset⟩
    dsimp only[Option.getD_none]
    rw[Z3 (by rfl),rz (sR (d:=ak.dflt) hi)]
    show((eR (cY s i)).bind fun z1=>_)=_
    rw[hrv,Z1,dx (nn _) (by rw[ig]; omega),Eh _ hi]
   | some f =>
    rw[hf] at hve
    have hok:=fD hf (fa hs i)
    have hfl:1≤f.length:=by
     have hb:bA (f.length:Int) 1 60=true:=by
      unfold dJ at hok
      simp only[Z8] at hok
      exact hok.1
     have:=aH.1 hb
     omega
    dsimp only[ch_]
    rw[Z2 (by rw[beq_iff_eq]; omega),T9 (cS hs) hi,Z1]
    dsimp only
    by_cases hr:ey (cf s) i i
    ·simp only[Z3 hr] at hve
     refine⟨done.set i true,zM F i (vE 5),?_,hstep _ (nN (by decide) (by decide)) hve.symm,hnext,hset⟩
     rw[kN.2 hr,Z3 rfl,fN,Z1,dx (nn _) (by rw[ig]; omega),Eh _ hi]
    ·have hrb:zk s i=false:=by
      rw[bt_,ne_eq,kN]
      exact hr
     have hI':Ei s told given (fun k=>P k∨k=i) (done.set i true) F:=by
      refine⟨by rw[ec_]; exact hI.len,fun k hk hdk => ?_,hI.ok,fun k hk htk=>hnext.mono k (hI.told k hk htk)⟩
      rw[qz _ _ _ hil] at hdk
      by_cases e:k=i
      ·exact .inl (.inr e)
      ·rw[Z2 e] at hdk
       rcases hI.val k hk hdk with h1 | h1
       ·exact .inl (.inl h1)
       ·exact .inr h1
     obtain⟨done',F',e1,I1,N1,d1⟩:=I6 hs R hi hf hr ht hP (cf s i) [] (done.set i true) F rfl hI' (by omega) (fun k hk=>by cases hk) hset
     refine⟨done',F',?_,I1,hnext.trans N1,d1⟩
     rw[hrb,Z2 (by decide),rz (Ru hi),XA,cn_]
     exact e1
theorem MT : ∀(m i:Nat) (done:List Bool) (F:Nat→ae),i+m=s.length→Ei s told given (fun _=>False) done F→(∀ k,k < i→done.getD k false=true) →
  gG (s.length:Int) (i:Int) (aW s F) (gr s) done=some ((aW s (oj s told given),()),())
 | 0,i,done,F,h,hI,hd=>by
  rw[ke,aL (by omega)]
  rw[Ua fun k hk=>(hI.val k hk (hd k (by omega))).resolve_left id]
 | m+1,i,done,F,h,hI,hd=>by
  have hn:=cS hs
  obtain⟨done',F',e1,I1,N1,d1⟩:=V6 hs (told:=told) (given:=given) (done.count false) i (fun _=>False) done F (by omega) hI (fun p hp=>hp.elim) (ag_ _)
  rw[ke,aQ (by omega),e1,Z1,de (by omega) (by omega)]
  have:=MT m (i+1) done' F' (by omega) I1 (fun k hk=>by
   by_cases e:k=i
   ·rw[e]
    exact d1
   ·exact N1.mono k (hd k (by omega)))
  exact this
theorem Rx {done:List Bool} {F:Nat→ae}:jU (s.length:Int) 0 (aW s F) s (gF s) (gL s) done=gG (s.length:Int) 0 (aW s F) (gr s) done:=by
 rw[yJ,ke]
 have:=Uc (gr s) (done.count false) 0 done (aW s F) (ag_ _)
 rw[←this]
 rfl
theorem N9 {l:List Bool} (h:l.length≤1000000):iV l=some ((l,()),()):=by
 rw[rk]
 unfold ce
 simp only[im?,dite_true,Z1]
 exact Z3 (by omega)
theorem MU {gv:List ae} (hg:gv.length=s.length) {td:List Bool} : ∀(ys pre:List ac) (o:List ap),s=pre++ys→o.length=ys.length →
  iX gv s (s.length:Int) (pre.length:Int) s (gF s) (gL s) td (((bu_ pre.length).map fun k=>(gY s k,gv.getD k v0,()))++o)=jU (s.length:Int) 0 (aW s fun k=>gv.getD k v0) s (gF s) (gL s) td
 | [],pre,o,h,ho=>by
  have e:pre=s:=by rw[h]; simp
  rw[pN,aL (ci h),List.eq_nil_of_length_eq_zero ho,List.append_nil,cn_,fc_,e]
  rfl
 | y :: ys,pre,o,h,ho=>by
  have hn:=cS hs
  have hlen:s.length=pre.length+(ys.length+1):=by rw[h]; simp
  cases o with
  | nil=>cases ho
  | cons z o =>
   have e0:((bu_ pre.length).map fun k=>(gY s k,gv.getD k v0,())).length=pre.length:=by rw[cn_,fc_]
   have hi:pre.length < gv.length:=by omega
   rw[pN,aQ (cr h),bI h,rz (sR (d:=v0) hi),dx (nn _) (by simp only[Z7,aa_,cn_,fc_]; omega),bi h (by omega)]
   have ih:=MU hg (td:=td) ys (pre++[y]) o (aU h) (by simpa using ho)
   have e1:ee_ (((bu_ pre.length).map fun k=>(gY s k,gv.getD k v0,()))++z :: o) (an_ (pre.length:Int)) (y.1,gv.getD (an_ (pre.length:Int)) v0,())=((bu_ (pre++[y]).length).map fun k=>(gY s k,gv.getD k v0,()))++o:=by
    have:=X1 (l:=(bu_ pre.length).map fun k=>((gY s k,gv.getD k v0,()):ap)) (r:=o) (y:=z) (z:=(y.1,gv.getD (an_ (pre.length:Int)) v0,()))
    rw[e0] at this
    rw[this,Z7,Z4,List.range_succ,List.map_append,List.append_assoc,List.map_singleton,T8 h]
    rfl
   refine Eq.trans ?_ ih
   exact ae_ _ e1
theorem Oa {td:List Bool} {gv:List ae} (h1:td.length=s.length) (h2:gv.length=s.length) (h3 : ∀ v∈gv,au v=true) (ht : ∀ k,k < s.length→told k=td.getD k false) (hg : ∀ k,k < s.length→given k=gv.getD k v0):rG (gr s) td gv=some ((aW s (oj s told given),()),()):=by
 have hn:=cS hs
 rw[DT,N9 hs (by omega),Z1]
 show(HK (s.length:Int) 48 (ao.dflt) fun y1=>(iX gv s (s.length:Int) 0 s (gF s) (gL s) td y1))=_
 rw[Fg (by omega)]
 have:=MU hs h2 (td:=td) s [] (az_ s.length ao.dflt) rfl (by simp)
 refine Eq.trans this ?_
 rw[Rx hs]
 refine MT hs s.length 0 td _ (by omega) ⟨h1,fun k hk hd => .inr ?_,fun k hk => ?_,fun k hk h=>by rw[←ht k hk]; exact h⟩ (fun k hk=>by omega)
 ·rw[xJ (fa hs) k,Z3 (by rw[ht k hk]; exact hd),hg k hk]
 ·exact h3 _ (uu (by omega))
end
end Go.Proofs.YtipnjpfdlolhmaaGreatDoor.Abs
