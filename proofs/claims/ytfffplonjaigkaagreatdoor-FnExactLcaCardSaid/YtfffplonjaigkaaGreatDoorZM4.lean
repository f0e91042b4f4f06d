/- Plain laws: places and their texts. -/
import Derived.Test.YtfffplonjaigkaaGreatDoorZM3
set_option linter.unusedVariables false
set_option linter.unusedSimpArgs false
set_option linter.unusedSectionVars false
open Bool renaming and_eq_true→M7,eq_iff_iff→R8,false_eq_true→M8,not_false→O8,not_true→O5,true_and→P4
open ByteArray renaming size→N6,toList→M1
open Go.IntKind renaming i64→ar_,wrap→aq_
open Go.Lib renaming decDigits→O1,parseIntB→U5,parseUintB→ac_,parseUintM→X1
open Int renaming toNat_natCast→V5,toNat_of_nonneg→T7,toNat→P9
open List renaming all_cons→U1,append_nil→Q9,dropWhile_cons_of_neg→S6,dropWhile_cons_of_pos→X6,drop_succ_cons→Q1,drop_zero→S9,find?_cons→U2,getD→R0,head?_cons→T5,isPrefixOf_iff_prefix→V0,length_append→M6,length_cons→N3,length_drop→X0,length_nil→S4,length_singleton→M3,takeWhile_cons_of_neg→X5,take_left'→am_
open List.cons renaming inj→Y8
open Nat renaming le_refl→N4,lt_of_lt_of_le→Q8
open Option renaming bind_some→M0
open Option.some renaming injEq→O2
open _root_ renaming ByteArray→L9,absurd→P1,beq_iff_eq→S1,decide_eq_false→O7,decide_eq_true_eq→M9,decide_eq_true→O6,decide_false→S0,decide_true→Q6,if_false→O0,if_neg→M2,if_pos→M5,if_true→O4
namespace Go.Proofs.YtfffplonjaigkaaGreatDoor.Abs
open Go
def em (c:Nat):ae:=if c≤26 then [UInt8.ofNat (64+c)] else [65,UInt8.ofNat (38+c)]
theorem HR : ∀ c:Fin 53,1≤c.val→c.val≤26→strOfNums ([(IntKind.u8.wrap (aq_ ar_ ((aq_ ar_ (65+(c.val:Int))) - 1)))]:List Int)=ba (em c.val):=by decide +kernel
theorem HS : ∀ c:Fin 53,1≤c.val → ¬c.val≤26→strOfNums ([(IntKind.u8.wrap (aq_ ar_ ((aq_ ar_ (65+(aq_ ar_ (Int.tdiv (aq_ ar_ ((c.val:Int) - 1)) 26)))) - 1))),(IntKind.u8.wrap (aq_ ar_ (65+(Int.tmod (aq_ ar_ ((c.val:Int) - 1)) 26))))]:List Int)=ba (em c.val):=by decide +kernel
theorem HT : ∀ c:Fin 53,1≤c.val→strOfNums ([(IntKind.u8.wrap (aq_ ar_ (65+(Int.tmod (aq_ ar_ ((c.val:Int) - 1)) 26))))]:List Int)=ba (if c.val≤26 then em c.val else(em c.val).drop 1):=by decide +kernel
theorem HU : ∀ c:Fin 53,1≤c.val→IntKind.i64.wrap (Int.tdiv (aq_ ar_ ((c.val:Int) - 1)) 26)=if c.val≤26 then 0 else 1:=by decide +kernel
theorem vc {c:Nat} (h1:1≤c) (h2:c≤52):kP (c:Int)=some ((ba (em c),()),()):=by
 rw[Ea,dH]
 simp only[M0]
 rw[show bV (c:Int) 1 52=true from bu.2 ⟨by omega,by omega⟩]
 simp only[O5,M8,O0]
 by_cases h:c≤26
 ·rw[av (by omega),HR ⟨c,by omega⟩ h1 h]
 ·rw[aq (by omega),HS ⟨c,by omega⟩ h1 h]
theorem oe (c:Nat):1≤(em c).length∧(em c).length≤2:=by
 unfold em
 split <;> simp
theorem vd {c:Nat} (h1:1≤c) (h2:c≤52):nz (c:Int)=some ((ba (em c),()),()):=by
 have k1:=HT ⟨c,by omega⟩ h1
 have k2:=HU ⟨c,by omega⟩ h1
 have kl:=oe c
 rw[DY,gN]
 simp only[M0]
 rw[show bV (c:Int) 1 52=true from bu.2 ⟨by omega,by omega⟩]
 simp only[O5,M8,O0]
 simp only at k1 k2
 rw[hZ,av (by omega),k1,k2]
 by_cases h:c≤26
 ·rw[M5 h,M5 h,aW (by simp only[S4]; omega),hZ,aq (by decide),Q9]
 ·rw[M2 h,M2 h,aW (by simp only[S4,X0]; omega),hZ,av (by decide),Q9]
  have k3':strOfNums ([(IntKind.u8.wrap (aq_ ar_ (65+(Int.tmod (aq_ ar_ ((1:Int) - 1)) 26))))]:List Int)=ba [65]:=by decide +kernel
  have k4':IntKind.i64.wrap (Int.tdiv (aq_ ar_ ((1:Int) - 1)) 26)=0:=by decide +kernel
  rw[k3',k4',aW (by simp only[N3,S4,X0]; omega),hZ,aq (by decide)]
  congr 3
  unfold em
  rw[M2 h]
  rfl
theorem wd {P:L9→Int→Option ((Int×Unit)×Unit)} {C:Int→Option ((L9×Unit)×Unit)}
  (hP : ∀ x n,P x n=if decide (n≤52)=true then(C n).bind fun z1=>(if(M1 z1.1.1 == M1 x)=true then some ((n,()),()) else P x (aq_ ar_ (n+1))) else some ((0,()),()))
  (hC : ∀ c:Nat,1≤c→c≤52→C (c:Int)=some ((ba (em c),()),())) (w:ae) : ∀ k n:Nat,n+k=53→1≤n→P (ba w) (n:Int)=some ((((((List.range' n k).find? fun m=>decide (em m=w)).getD 0:Nat):Int),()),())
 | 0,n,h,_=>by
  rw[hP,aq (by omega)]
  rfl
 | k+1,n,h,h1=>by
  rw[hP,av (by omega),hC n h1 (by omega)]
  simp only[M0,cI,List.range'_succ,U2]
  by_cases he:em n=w
  ·simp[he]
  ·rw[M2 (by simpa using he),wr (by omega) (by omega)]
   simp only[he,S0]
   exact wd hP hC w k (n+1) (by omega) (by omega)
def f6 (w:ae):Nat:=((List.range' 1 52).find? fun m=>decide (em m=w)).getD 0
theorem Eh (w:ae):vM (ba w)=some ((((f6 w:Nat):Int),()),()):=by
 rw[Eb]
 exact wd (fun x n=>yG) (fun c h1 h2=>vc h1 h2) w 52 1 rfl (N4 _)
theorem Ei (w:ae):kO (ba w)=some ((((f6 w:Nat):Int),()),()):=by
 rw[DZ]
 exact wd (fun x n=>yE) (fun c h1 h2=>vd h1 h2) w 52 1 rfl (N4 _)
theorem xH : ∀ m:Fin 53,1≤m.val→f6 (em m.val)=m.val:=by decide +kernel
theorem HV {w:ae} (h:1≤f6 w):f6 w≤52∧em (f6 w)=w:=by
 unfold f6 at h ⊢
 cases hf:(List.range' 1 52).find? fun m=>decide (em m=w) with
 | none=>rw[hf] at h; simp at h
 | some m =>
  have h1:=List.find?_some hf
  have h2:=List.mem_of_find?_eq_some hf
  rw[List.mem_range'_1] at h2
  simp only[Option.getD_some]
  exact⟨by omega,by simpa using h1⟩
def kX (b:Bool):ae:=if b=true then [36] else []
def qx (c r:Nat) (fc fr:Bool):ae:=kX fc++(em c++(kX fr++O1 r))
def ig (p:bM):ae:=qx p.1.1.toNat p.1.2.1.toNat p.2.1 p.2.2.1
theorem oW {r:eB}:bS r=true↔(1≤r.1∧r.1≤52)∧1≤r.2.1∧r.2.1≤99:=by
 unfold bS
 rw[M7,bu,bu]
theorem mG {r:Nat} (h:r≤99):(O1 r).length≤2:=xw 1 r (by omega)
theorem iX (p:bM):hY p=some ((if bS p.1=true then ba (ig p) else ba [],()),()):=by
 rw[AO,oQ]
 simp only[M0]
 cases hr:bS p.1 with
 | false=>rfl
 | true =>
  simp only[O5,M8,O0,O4]
  obtain⟨⟨c,r,u⟩,fc,fr,u'⟩:=p
  obtain⟨⟨h1,h2⟩,h3,h4⟩:=oW.1 hr
  simp only at h1 h2 h3 h4 ⊢
  obtain⟨c,rfl⟩ : ∃ n:Nat,c=n:=⟨c.toNat,by omega⟩
  obtain⟨r,rfl⟩ : ∃ n:Nat,r=n:=⟨r.toNat,by omega⟩
  have kc:=oe c
  have kr:=mG (r:=r) (by omega)
  have e1:kP (c:Int)=some ((ba (em c),()),()):=vc (by omega) (by omega)
  have e2:fZ (r:Int)=some ((ba (O1 r),()),()):=by rw[po (by omega) (by omega),kW]
  unfold ig qx
  simp only[V5]
  cases fc <;> cases fr <;> simp only[e1,e2,M0,O4,O0,M8,kX]
  all_goals
   repeat rw[aW (by first | omega | (simp only[M6,N3,S4]; omega))]
   simp
theorem mb (p:bM):jZ p=some ((if bS p.1=true then ba (ig p) else ba [],()),()):=by
 rw[AI,lK]
 simp only[M0]
 cases hr:bS p.1 with
 | false=>rfl
 | true =>
  simp only[O5,M8,O0,O4]
  obtain⟨⟨c,r,u⟩,fc,fr,u'⟩:=p
  obtain⟨⟨h1,h2⟩,h3,h4⟩:=oW.1 hr
  simp only at h1 h2 h3 h4 ⊢
  obtain⟨c,rfl⟩ : ∃ n:Nat,c=n:=⟨c.toNat,by omega⟩
  obtain⟨r,rfl⟩ : ∃ n:Nat,r=n:=⟨r.toNat,by omega⟩
  have kc:=oe c
  have kr:=mG (r:=r) (by omega)
  have e1:nz (c:Int)=some ((ba (em c),()),()):=vd (by omega) (by omega)
  have e2:iy (r:Int)=some ((ba (O1 r),()),()):=by rw[zS (by omega) (by omega),kW]
  unfold ig qx
  simp only[V5]
  cases fc <;> cases fr <;> simp only[e1,e2,M0,O4,O0,M8,kX]
  all_goals
   repeat rw[aW (by first | omega | (simp only[M6,N3,S4]; omega))]
   simp
theorem ve {w:ae} (hw:w.length≤18) : ∀(ys pre:ae),w=pre++ys→pre.all cB=true→jy (ba w) (aR 0 pre:Nat) (pre.length:Int)=some ((if ys.all cB=true then((aR 0 w:Nat):Int) else 0,ys.all cB,()),())
 | [],pre,h,hp=>by
  rw[Q9] at h
  subst h
  rw[tx,aq (by rw[aB]; omega)]
  rfl
 | y :: ys,pre,h,hp=>by
  have hl:pre.length < w.length:=by rw[h]; simp
  rw[tx,av (by rw[aB]; omega),fh h]
  by_cases h1:y.toNat < 48
  ·have hd:cB y=false:=by simp[cB]; omega
   rw[av (by omega)]
   simp[hd]
  ·rw[aq (by omega),fh h]
   by_cases h2:57 < y.toNat
   ·have hd:cB y=false:=by simp[cB]; omega
    rw[av (by omega)]
    simp[hd]
   ·have hd:cB y=true:=by simp[cB]; omega
    rw[aq (by omega),fh h]
    have hv:=uu pre 0 hp
    have hv2:10 ^ pre.length≤10 ^ 17:=Nat.pow_le_pow_right (by decide) (by omega)
    have hv3:aR 0 pre < 100000000000000000:=by
     rw[Nat.zero_add,Nat.one_mul] at hv
     exact Q8 hv hv2
    clear hv hv2
    have e1:IntKind.u8.wrap ((y.toNat:Int) - 48)=((y.toNat - 48:Nat):Int):=by rw[L1 (by omega) (by omega)]; omega
    have w1:IntKind.i64.wrap (((aR 0 pre:Nat):Int)*10)=((aR 0 pre:Nat):Int)*10:=wr (by omega) (by omega)
    have w2:IntKind.i64.wrap ((y.toNat - 48:Nat):Int)=((y.toNat - 48:Nat):Int):=wr (by omega) (by omega)
    rw[e1,w1,w2,wr (n:=((aR 0 pre:Nat):Int)*10+((y.toNat - 48:Nat):Int)) (by omega) (by omega),wr (n:=(pre.length:Int)+1) (by omega) (by omega)]
    have e2:((aR 0 pre:Nat):Int)*10+((y.toNat - 48:Nat):Int)=((aR 0 (pre++[y]):Nat):Int):=by rw[tH]; omega
    have e3:(pre.length:Int)+1=((pre++[y]).length:Int):=by simp
    rw[e2,e3,ve hw ys (pre++[y]) (by rw[h]; simp) (by simp[hp,hd])]
    simp[hd]
def bT (w:ae) (m:Nat):Bool:=fK w && decide (w.length≤m)
theorem tI (w:ae) {m:Nat} (hm:m≤18):cb (ba w) (m:Int)=some ((if bT w m=true then((aR 0 w:Nat):Int) else 0,bT w m,()),()):=by
 rw[HE,aB]
 cases w with
 | nil =>
  rw[av (by simp)]
  rfl
 | cons y ys =>
  have hlen:(y :: ys:ae).length=ys.length+1:=rfl
  rw[aq (by omega)]
  by_cases h:(y :: ys:ae).length≤m
  ·have hle:decide ((y :: ys:ae).length≤m)=true:=O6 h
   rw[aq (by omega),oc]
   have hl:=ve (w:=y :: ys) (by omega) (y :: ys) [] rfl rfl
   have hl:jy (ba (y :: ys)) 0 0=_:=hl
   have h0n:decide (1≤(y :: ys:ae).length)=true:=O6 (by omega)
   by_cases h0:y=48
   ·subst h0
    rw[M5 (by rfl)]
    by_cases h1:ys.length=0
    ·rw[aq (by omega),hl]
     have h1':decide ((48 :: ys:ae).length=1)=true:=O6 (by omega)
     have e:bT (48 :: ys) m=(48 :: ys:ae).all cB:=by
      unfold bT fK
      rw[hle,h0n,h1']
      simp
     rw[e]
    ·rw[av (by omega)]
     have h1':decide ((48 :: ys:ae).length=1)=false:=O7 (by omega)
     have e:bT (48 :: ys) m=false:=by
      unfold bT fK
      rw[h1']
      simp
     rw[e]
     rfl
   ·have h0' : ¬((y.toNat:Int) == 48)=true:=by
     simp only[S1]
     intro e
     apply h0
     apply UInt8.toNat_inj.1
     show y.toNat=48
     omega
    rw[M2 h0',hl]
    have e:bT (y :: ys) m=(y :: ys:ae).all cB:=by
     have h2:decide ((y :: ys:ae).head? = some 48)=false:=O7 (by simpa using h0)
     unfold bT fK
     rw[hle,h0n,h2]
     simp
    rw[e]
  ·rw[av (by omega)]
   have e:bT (y :: ys) m=false:=by
    unfold bT
    rw[O7 h]
    simp
   rw[e]
   rfl
theorem we {w:ae} {m:Nat} (h:bT w m=true):O1 (aR 0 w)=w∧w.length≤m:=by
 unfold bT at h
 rw[M7,M9] at h
 exact⟨(EY w h.1).1,h.2⟩
theorem tJ {u m:Nat} (h:(O1 u).length≤m):bT (O1 u) m=true:=by
 unfold bT
 rw[wc]
 simpa using h
theorem pu {w:ae} (hw:w.length≤281474976710656):eF (ba w) 10 64=some (((bD w).1,(bD w).2,()),()):=by
 rw[sr]
 show(if(ba w).size≤281474976710656∧(10:Int)=10∧(64:Int)=64 then some (((bD (lb (ba w))).1,(bD (lb (ba w))).2,()),()) else none)=_
 rw[M5 ⟨by rw[aB]; exact hw,rfl,rfl⟩,cP]
theorem Kk : ∀ r:Fin 10,(bD [UInt8.ofNat (48+r.val)]).1=(r.val:Int):=by decide +kernel
theorem Kl : ∀ r:Fin 100,(bD [UInt8.ofNat (48+r.val / 10),UInt8.ofNat (48+r.val % 10)]).1=(r.val:Int):=by decide +kernel
theorem HW {r:Nat} (h:r < 100):(bD (O1 r)).1=(r:Int):=by
 by_cases h1:r < 10
 ·rw[Lib.decDigits_one h1]
  exact Kk ⟨r,h1⟩
 ·rw[Lib.decDigits_two h1 h]
  exact Kl ⟨r,h⟩
theorem K9:(fun c=>([65,66,67,68,69,70,71,72,73,74,75,76,77,78,79,80,81,82,83,84,85,86,87,88,89,90]:ae).contains c)=dp:=funext fun c=>wb (p:=fun c=>([65,66,67,68,69,70,71,72,73,74,75,76,77,78,79,80,81,82,83,84,85,86,87,88,89,90]:ae).contains c=dp c) (by decide +kernel) c
def bC (w:ae):Bool×ae:=(([36]:ae).isPrefixOf w,if([36]:ae).isPrefixOf w=true then w.drop 1 else w)
theorem zV (w:ae):kX (bC w).1++(bC w).2=w:=by
 unfold bC kX
 cases w with
 | nil=>rfl
 | cons c l =>
  by_cases h:c=36
  ·subst h
   simp
  ·have:([36]:ae).isPrefixOf (c :: l)=false:=by rw[dW]; simp[h]
   simp[this]
theorem CG {b:Bool} {w:ae} (h:w.head? ≠ some 36):bC (kX b++w)=(b,w):=by
 unfold bC kX
 cases b with
 | true=>simp
 | false =>
  cases w with
  | nil=>rfl
  | cons c l =>
   have h':c≠36:=fun e=>h (by rw[e]; rfl)
   have:([36]:ae).isPrefixOf (c :: l)=false:=by rw[dW]; simp[h']
   simp[this]
theorem CH (w:ae):(bC w).2.length≤w.length:=by
 unfold bC
 split <;> simp
def ki (w:ae):bM:=((((f6 ((bC w).2.takeWhile dp):Nat):Int),(bD (bC ((bC w).2.dropWhile dp)).2).1,()),(bC w).1,(bC ((bC w).2.dropWhile dp)).1,())
theorem zW (p:UInt8→Bool) (l:ae):(l.dropWhile p).length≤l.length:=(tG p l).2.2
theorem La {w:ae} (hw:w.length≤9223372036854775807):b8 (ba w) (⟨#[36]⟩:L9)=some ((ba (bC w).2,(bC w).1,()),()):=oV w [36] hw
theorem CI {w:ae} (hw:w.length≤281474976710656) :
  ek (ba w)=some ((if bS (ki w).1=true∧ig (ki w)=w then ki w else p0,decide (bS (ki w).1=true∧ig (ki w)=w),()),()):=by
 have l1:=CH w
 have l2:=zW dp (bC w).2
 have l3:=CH ((bC w).2.dropWhile dp)
 obtain⟨d1,d2,d3⟩:=tG dp (bC w).2
 rw[AP,La (by omega)]
 simp only[M0]
 rw[pq _ _ (by decide +kernel),K9]
 simp only[M0,aB]
 rw[wr (by omega) (by omega),show((bC w).2.length:Int) - (((bC w).2.dropWhile dp).length:Int)=(((bC w).2.length - ((bC w).2.dropWhile dp).length:Nat):Int) by omega,xF (by omega),d1,Eh]
 simp only[M0]
 rw[eg (by omega),d2,La (by omega)]
 simp only[M0]
 rw[pu (by omega)]
 simp only[M0,oQ,iX]
 have e:ki w=((((f6 ((bC w).2.takeWhile dp):Nat):Int),(bD (bC ((bC w).2.dropWhile dp)).2).1,()),(bC w).1,(bC ((bC w).2.dropWhile dp)).1,()):=rfl
 rw[←e]
 have e1:(((f6 ((bC w).2.takeWhile dp):Nat):Int),(bD (bC ((bC w).2.dropWhile dp)).2).1,())=(ki w).1:=rfl
 rw[e1]
 cases hr:bS (ki w).1 with
 | false=>simp
 | true =>
  simp only[O5,M8,O0,O4,cI,true_and]
  by_cases hp:ig (ki w)=w
  ·simp[hp]
  ·simp[hp]
theorem EZ : ∀ c:Fin 53,1≤c.val→(em c.val).all dp=true:=by decide +kernel
theorem LJ {y:UInt8} (h:dp y=true):y≠36:=by
 rintro rfl
 exact P1 h (by decide)
theorem JX {y:UInt8} (h:cB y=true):y≠36∧dp y=false:=by
 refine⟨?_,?_⟩
 ·rintro rfl
  exact P1 h (by decide)
 ·simp only[cB,dp,M7,M9,Bool.and_eq_false_iff,decide_eq_false_iff_not] at h ⊢
  omega
theorem xI (u:Nat) : ∃ y l,O1 u=y :: l∧cB y=true:=by
 have h:=wc u
 unfold fK at h
 simp only[M7,M9] at h
 cases hd:O1 u with
 | nil=>rw[hd] at h; simp at h
 | cons y l =>
  rw[hd] at h
  refine⟨y,l,rfl,?_⟩
  have:=h.1.1
  simp only[U1,M7] at this
  exact this.1
theorem Km {c:Nat} (h1:1≤c) (h2:c≤52) (x:ae):(em c++x).head? ≠ some 36:=by
 have h:=EZ ⟨c,by omega⟩ h1
 have hl:=oe c
 simp only at h
 cases hc:em c with
 | nil=>rw[hc] at hl; simp at hl
 | cons y l =>
  rw[hc] at h
  simp only[U1,M7] at h
  intro e
  simp only[List.cons_append,T5,O2] at e
  exact LJ h.1 e
theorem CJ {c r:Nat} (h1:1≤c) (h2:c≤52) (fc fr:Bool):(bC (qx c r fc fr)).1=fc∧(bC (qx c r fc fr)).2.takeWhile dp=em c∧(bC ((bC (qx c r fc fr)).2.dropWhile dp)).1=fr∧(bC ((bC (qx c r fc fr)).2.dropWhile dp)).2=O1 r:=by
 unfold qx
 rw[CG (Km h1 h2 _)]
 have hu:=List.all_eq_true.1 (EZ ⟨c,by omega⟩ h1)
 simp only at hu ⊢
 obtain⟨y,l,hy,hd⟩:=xI r
 have hn : ∃ z m,kX fr++O1 r=z :: m∧dp z=false:=by
  cases fr with
  | true=>exact⟨36,_,rfl,by decide⟩
  | false=>exact⟨y,l,hy,(JX hd).2⟩
 obtain⟨z,m,hz,hzu⟩:=hn
 have ht:(kX fr++O1 r).takeWhile dp=[]:=by rw[hz]; simp[hzu]
 have hdr:(kX fr++O1 r).dropWhile dp=kX fr++O1 r:=by rw[hz]; simp[hzu]
 rw[List.takeWhile_append_of_pos hu,List.dropWhile_append_of_pos hu,ht,hdr,Q9,CG (by rw[hy]; simp only[T5,ne_eq,O2]; exact(JX hd).1)]
 simp
theorem tK {p:bM} (h:bS p.1=true) : ∃(c r:Nat) (fc fr:Bool),p=(((c:Int),(r:Int),()),fc,fr,())∧1≤c∧c≤52∧1≤r∧r≤99:=by
 obtain⟨⟨c,r,u⟩,fc,fr,u'⟩:=p
 obtain⟨⟨h1,h2⟩,h3,h4⟩:=oW.1 h
 simp only at h1 h2 h3 h4
 refine⟨c.toNat,r.toNat,fc,fr,?_,by omega,by omega,by omega,by omega⟩
 rw[T7 (by omega),T7 (by omega)]
theorem Kn {p:bM} (h:bS p.1=true):ki (ig p)=p:=by
 obtain⟨c,r,fc,fr,rfl,h1,h2,h3,h4⟩:=tK h
 obtain⟨e1,e2,e3,e4⟩:=CJ (r:=r) h1 h2 fc fr
 show ki (qx c r fc fr)=_
 unfold ki
 rw[e1,e2,e3,e4,xH ⟨c,by omega⟩ h1,HW (by omega)]
def kj (fc:Bool) (ls w2:ae):bM×Bool :=
 if bT (bC w2).2 2=true∧bS (((f6 ls:Nat):Int),((aR 0 (bC w2).2:Nat):Int),())=true then(((((f6 ls:Nat):Int),((aR 0 (bC w2).2:Nat):Int),()),fc,(bC w2).1,()),true) else(p0,false)
def bU (w:ae):bM×Bool:=kj (bC w).1 ((bC w).2.takeWhile dp) ((bC w).2.dropWhile dp)
theorem Gj {fc:Bool} {ls w2:ae} {f1:Bool} {w3:ae} (h:bC w2=(f1,w3)) :
  ((cb (ba w3) 2).bind fun z2=>(if(!z2.1.2.1)=true then(some ((((0,0,()),false,false,()),false,()),(()))) else((db (((f6 ls:Nat):Int),z2.1.1,())).bind fun z3=>(if(!z3.1.1)=true then(some ((((0,0,()),false,false,()),false,()),(()))) else(some (((((((f6 ls:Nat):Int),z2.1.1,()),fc,f1,()):bM),true,()),(())))))))=some (((kj fc ls w2).1,(kj fc ls w2).2,()),()):=by
 have e:=tI w3 (m:=2) (by decide)
 have e:cb (ba w3) 2=_:=e
 rw[e]
 simp only[M0,lK]
 unfold kj
 rw[h]
 cases hr:bT w3 2 with
 | false=>simp
 | true =>
  simp only[O5,M8,O0,O4,true_and]
  cases ho:bS (((f6 ls:Nat):Int),((aR 0 w3:Nat):Int),()) with
  | false=>simp
  | true=>simp
theorem L2 {fc:Bool} {w1 pre ys:ae} (h:w1=pre++ys) (hl:w1.length≤9223372036854775807) :
  (uS (ba w1) (pre.length:Int) fun y7=>((kO y7).bind fun z8=>(fC (ba w1) (pre.length:Int) fun y8=>(if(decide ((N6 y8:Int) > 0))=true then(cM y8 0 fun y9=>(if(y9 == 36)=true then(fC y8 1 fun y10=>((cb y10 2).bind fun z9=>(if(!z9.1.2.1)=true then(some ((((0,0,()),false,false,()),false,()),(()))) else((db (z8.1.1,z9.1.1,())).bind fun z10=>(if(!z10.1.1)=true then(some ((((0,0,()),false,false,()),false,()),(()))) else(some ((((z8.1.1,z9.1.1,()),fc,true,()),true,()),(())))))))) else((cb y8 2).bind fun z11=>(if(!z11.1.2.1)=true then(some ((((0,0,()),false,false,()),false,()),(()))) else((db (z8.1.1,z11.1.1,())).bind fun z12=>(if(!z12.1.1)=true then(some ((((0,0,()),false,false,()),false,()),(()))) else(some ((((z8.1.1,z11.1.1,()),fc,false,()),true,()),(()))))))))) else((cb y8 2).bind fun z13=>(if(!z13.1.2.1)=true then(some ((((0,0,()),false,false,()),false,()),(()))) else((db (z8.1.1,z13.1.1,())).bind fun z14=>(if(!z14.1.1)=true then(some ((((0,0,()),false,false,()),false,()),(()))) else(some ((((z8.1.1,z13.1.1,()),fc,false,()),true,()),(())))))))))))
   = (some (((kj fc pre ys).1,(kj fc pre ys).2,()),()):Option ((bM×Bool×Unit)×Unit)):=by
 subst h
 have hle:pre.length≤(pre++ys).length:=by simp
 rw[xF hle,am_ rfl,Ei]
 simp only[M0]
 rw[eg hle,List.drop_left' rfl,aB]
 cases ys with
 | nil =>
  rw[aq (by simp)]
  exact Gj rfl
 | cons y l =>
  rw[av (by simp),oc]
  by_cases hy:y=36
  ·subst hy
   rw[M5 (by rfl),show(1:Int)=((1:Nat):Int) from rfl,eg (by simp)]
   exact Gj (by unfold bC; rw[dW]; simp)
  ·have h0' : ¬((y.toNat:Int) == 36)=true:=by
    simp only[S1]
    intro e
    apply hy
    apply UInt8.toNat_inj.1
    show y.toNat=36
    omega
   rw[M2 h0']
   exact Gj (by unfold bC; rw[dW]; simp[hy])
theorem gu {fc:Bool} {w1:ae} (hl:w1.length≤9223372036854775806) : ∀(ys pre:ae),w1=pre++ys→eR (ba w1) (pre.length:Int) 0 0 false false 0 0 fc false=some (((kj fc (pre++ys.takeWhile dp) (ys.dropWhile dp)).1,(kj fc (pre++ys.takeWhile dp) (ys.dropWhile dp)).2,()),())
 | [],pre,h=>by
  have hlen:w1.length=pre.length:=by rw[h]; simp
  rw[nU,aq (by rw[aB]; omega)]
  simpa using L2 (fc:=fc) h (by omega)
 | y :: ys,pre,h=>by
  have hlen:pre.length < w1.length:=by rw[h]; simp
  rw[nU,av (by rw[aB]; omega),fh h]
  cases hu:dp y with
  | true =>
   have hu':65≤y.toNat∧y.toNat≤90:=by simpa[dp] using hu
   rw[av (by omega),fh h,av (by omega),wr (by omega) (by omega),show(pre.length:Int)+1=((pre++[y]).length:Int) by simp,gu hl ys (pre++[y]) (by rw[h]; simp)]
   simp[hu]
  | false =>
   have hk:=L2 (fc:=fc) h (by omega)
   rw[X5 (by simp[hu]),S6 (by simp[hu]),Q9]
   by_cases h1:65≤y.toNat
   ·have h2 : ¬y.toNat≤90:=by
     intro h2
     simp[dp,h1,h2] at hu
    rw[av (by omega),fh h,aq (by omega)]
    exact hk
   ·rw[aq (by omega)]
    exact hk
theorem mc {w:ae} (hw:w.length≤281474976710656):hJ (ba w)=some (((bU w).1,(bU w).2,()),()):=by
 rw[AD,aB]
 cases w with
 | nil =>
  rw[aq (by simp)]
  exact gu (fc:=false) (w1:=[]) (by simp) [] [] rfl
 | cons y l =>
  rw[N3] at hw
  rw[av (by simp),oc]
  by_cases hy:y=36
  ·subst hy
   rw[M5 (by rfl),show(1:Int)=((1:Nat):Int) from rfl,eg (by simp)]
   have:=gu (fc:=true) (w1:=l) (by omega) l [] rfl
   have e:bC (36 :: l)=(true,l):=by unfold bC; rw[dW]; simp
   unfold bU
   rw[e]
   exact this
  ·have h0' : ¬((y.toNat:Int) == 36)=true:=by
    simp only[S1]
    intro e
    apply hy
    apply UInt8.toNat_inj.1
    show y.toNat=36
    omega
   rw[M2 h0']
   have:=gu (fc:=false) (w1:=y :: l) (by rw[N3]; omega) (y :: l) [] rfl
   have e:bC (y :: l)=(false,y :: l):=by unfold bC; rw[dW]; simp[hy]
   unfold bU
   rw[e]
   exact this
theorem Ko {w:ae} (h:(bU w).2=true):bS (bU w).1.1=true∧ig (bU w).1=w:=by
 unfold bU kj at h ⊢
 split at h
 ·rename_i hc
  rw[M5 hc]
  refine⟨hc.2,?_⟩
  obtain⟨⟨k1,k2⟩,k3,k4⟩:=oW.1 hc.2
  simp only at k1 k2 k3 k4
  obtain⟨c1,c2⟩:=HV (w:=(bC w).2.takeWhile dp) (by omega)
  obtain⟨r1,r2⟩:=we hc.1
  unfold ig qx
  simp only[V5]
  rw[c2,r1,zV,List.takeWhile_append_dropWhile,zV]
 ·cases h
theorem HX {p:bM} (h:bS p.1=true):bU (ig p)=(p,true):=by
 obtain⟨c,r,fc,fr,rfl,h1,h2,h3,h4⟩:=tK h
 obtain⟨e1,e2,e3,e4⟩:=CJ (r:=r) h1 h2 fc fr
 show bU (qx c r fc fr)=_
 unfold bU kj
 rw[e1,e2,e3,e4,xH ⟨c,by omega⟩ h1,od,M5 ⟨tJ (mG h4),h⟩]
theorem Kp {w:ae} (h:(bU w).2=false):bU w=(p0,false):=by
 unfold bU kj at h ⊢
 split at h
 ·cases h
 ·rename_i hc
  rw[M2 hc]
theorem iY {w:ae} (hw:w.length≤281474976710656):ek (ba w)=some (((bU w).1,(bU w).2,()),()):=by
 rw[CI hw]
 by_cases h:bS (ki w).1=true∧ig (ki w)=w
 ·have:=HX h.1
  rw[h.2] at this
  rw[M5 h,O6 h,this]
 ·rw[M2 h,O7 h]
  cases h2:(bU w).2 with
  | false=>rw[Kp h2]
  | true =>
   obtain⟨k1,k2⟩:=Ko h2
   refine P1 ?_ h
   have:=Kn k1
   rw[k2] at this
   rw[this]
   exact⟨k1,k2⟩
def fi:ae:=[84,82,85,69]
def fL:ae:=[70,65,76,83,69]
def dh (w:ae):Int:=if cA 5=ba w then 5 else if cA 4=ba w then 4 else if cA 3=ba w then 3 else if cA 2=ba w then 2 else if cA 1=ba w then 1 else 0
theorem Kq {w:ae} (h:dh w≠0):cA (dh w)=ba w∧1≤dh w∧dh w≤5:=by
 unfold dh at h ⊢
 split
 ·exact⟨‹_›,by decide,by decide⟩
 ·split
  ·exact⟨‹_›,by decide,by decide⟩
  ·split
   ·exact⟨‹_›,by decide,by decide⟩
   ·split
    ·exact⟨‹_›,by decide,by decide⟩
    ·split
     ·exact⟨‹_›,by decide,by decide⟩
     ·rename_i h1 h2 h3 h4 h5
      simp[h1,h2,h3,h4,h5] at h
theorem zX : ∀ n:Fin 6,1≤n.val→dh (lb (cA (n.val:Int)))=(n.val:Int):=by decide +kernel
def sd (w:ae):ay :=
 if w=[] then v0 else
 if w.head? = some 39 then vT (ba (w.drop 1)) else
 if w=fi then vB true else
 if w=fL then vB false else
 if w.head? = some 35 then(4,dh w,eS,()) else
 if w.head? = some 45 then(if bT (w.drop 1) 16=true∧aR 0 (w.drop 1)≠0 then vN (-((aR 0 (w.drop 1):Nat):Int)) else(9,0,eS,())) else
 if bT w 16=true then vN ((aR 0 w:Nat):Int) else(9,0,eS,())
def bn (w:ae):ay×Bool:=if aM (sd w)=true then(sd w,true) else(v0,false)
theorem E0 {v:ay} (h:v.2.2.1.size≤9223372036854775807) {a b:Int} {c:L9}:aw a b c v.1 v.2.1 v.2.2.1=some ((if aM v=true then v else v0,aM v,()),()):=by
 rw[uK,show(v.1,v.2.1,v.2.2.1,())=v from rfl,iJ h]
 simp only[M0]
 cases aM v <;> rfl
theorem og {w:ae} {n:Int} (h0:0≤n) (h1:n≤5) {a b e N:Int} {c f:L9}:de (ba w) n a b c e N f=de (ba w) (n+1) a b c e (if cA n=ba w then n else N) f:=by
 rw[ml,av h1,rB h0 h1]
 simp only[M0,zz,M9]
 rw[wr (by omega) (by omega)]
 split <;> rfl
theorem Lb {w:ae}:de (ba w) 1 0 0 eS 4 0 eS=some ((if aM (4,dh w,eS,())=true then(4,dh w,eS,()) else v0,aM (4,dh w,eS,()),()),()):=by
 rw[og (by decide) (by decide),og (by decide) (by decide),og (by decide) (by decide),og (by decide) (by decide),og (by decide) (by decide),ml,aq (by decide)]
 exact E0 (v:=(4,dh w,eS,())) (by show eS.size≤_; decide)
theorem Jq {w:ae} (hw:w.length≤9223372036854775807) {y:UInt8} {l:ae} (h:w=y :: l) :
  (if((y.toNat:Int) == 45)=true then(fC (ba w) 1 fun y5=>((cb y5 16).bind fun z1=>(if(!z1.1.2.1)=true then(some (((0,0,(⟨#[]⟩:L9),()),false,()),(()))) else(if((y.toNat:Int) == 45)=true then(if(z1.1.1 == 0)=true then(some (((0,0,(⟨#[]⟩:L9),()),false,()),(()))) else(if((y.toNat:Int) == 45)=true then(aw 0 0 (⟨#[]⟩:L9) 1 (aq_ ar_ (0 - z1.1.1)) (⟨#[]⟩:L9)) else(aw 0 0 (⟨#[]⟩:L9) 1 z1.1.1 (⟨#[]⟩:L9)))) else(if((y.toNat:Int) == 45)=true then(aw 0 0 (⟨#[]⟩:L9) 1 (aq_ ar_ (0 - z1.1.1)) (⟨#[]⟩:L9)) else(aw 0 0 (⟨#[]⟩:L9) 1 z1.1.1 (⟨#[]⟩:L9)))))))
   else((cb (ba w) 16).bind fun z2=>(if(!z2.1.2.1)=true then(some (((0,0,(⟨#[]⟩:L9),()),false,()),(()))) else(if((y.toNat:Int) == 45)=true then(if(z2.1.1 == 0)=true then(some (((0,0,(⟨#[]⟩:L9),()),false,()),(()))) else(if((y.toNat:Int) == 45)=true then(aw 0 0 (⟨#[]⟩:L9) 1 (aq_ ar_ (0 - z2.1.1)) (⟨#[]⟩:L9)) else(aw 0 0 (⟨#[]⟩:L9) 1 z2.1.1 (⟨#[]⟩:L9)))) else(if((y.toNat:Int) == 45)=true then(aw 0 0 (⟨#[]⟩:L9) 1 (aq_ ar_ (0 - z2.1.1)) (⟨#[]⟩:L9)) else(aw 0 0 (⟨#[]⟩:L9) 1 z2.1.1 (⟨#[]⟩:L9)))))))
   = (let v:ay:=if w.head? = some 45 then(if bT (w.drop 1) 16=true∧aR 0 (w.drop 1)≠0 then vN (-((aR 0 (w.drop 1):Nat):Int)) else(9,0,eS,())) else if bT w 16=true then vN ((aR 0 w:Nat):Int) else(9,0,eS,())
    some ((if aM v=true then v else v0,aM v,()),())):=by
 have e9:aM (9,0,eS,())=false:=by decide
 have hint : ∀ x:ae,cb (ba x) 16=_:=fun x=>tI x (m:=16) (by decide)
 have hrange : ∀ x:ae,bT x 16=true→aR 0 x < 10 ^ 16:=by
  intro x hx
  unfold bT fK at hx
  simp only[M7,M9] at hx
  have:=uu x 0 hx.1.1.1
  exact Q8 (by simpa using this) (Nat.pow_le_pow_right (by decide) hx.2)
 subst h
 by_cases hy:y=45
 ·subst hy
  have e:(((45:UInt8).toNat:Int) == 45)=true:=rfl
  simp only[e,O4,T5,Q1,S9]
  rw[show(1:Int)=((1:Nat):Int) from rfl,eg (by simp)]
  simp only[Q1,S9,hint,M0]
  cases hr:bT l 16 with
  | false=>simp[e9]; rfl
  | true =>
   have:=hrange l hr
   by_cases h0:aR 0 l=0
   ·simp[h0,e9]; rfl
   ·have h0' : ¬(((aR 0 l:Nat):Int) == 0)=true:=by simp only[S1]; omega
    simp only[O5,M8,O0,O4,h0',ne_eq,h0,not_false_eq_true,and_self]
    rw[wr (by omega) (by omega),show(0:Int) - ((aR 0 l:Nat):Int) = -((aR 0 l:Nat):Int) by omega]
    exact E0 (v:=vN _) (by show eS.size≤_; decide)
 ·have e : ¬((y.toNat:Int) == 45)=true:=by
   simp only[S1]
   intro e
   apply hy
   apply UInt8.toNat_inj.1
   show y.toNat=45
   omega
  have e2 : ¬(some y=some (45:UInt8)):=by simpa using hy
  simp only[e,O0,T5,e2,hint,M0]
  cases hr:bT (y :: l) 16 with
  | false=>simp[e9]; rfl
  | true =>
   have:=hrange _ hr
   simp only[O5,M8,O0,O4]
   exact E0 (v:=vN _) (by show eS.size≤_; decide)
theorem se {w:ae} (hw:w.length≤9223372036854775807):mt (ba w)=some (((bn w).1,(bn w).2,()),()):=by
 have fN : ∀ v:ay,sd w=v→some ((if aM v=true then v else v0,aM v,()),())=(some (((bn w).1,(bn w).2,()),()):Option ((ay×Bool×Unit)×Unit)):=by
  intro v hv
  unfold bn
  rw[hv]
  cases aM v <;> rfl
 rw[AF]
 have e0:(M1 (ba w) == M1 (⟨#[]⟩:L9))=decide (w=[]):=cI (b:=[])
 have e1:(M1 (ba w) == M1 (⟨#[84,82,85,69]⟩:L9))=decide (w=fi):=cI (b:=fi)
 have e2:(M1 (ba w) == M1 (⟨#[70,65,76,83,69]⟩:L9))=decide (w=fL):=cI (b:=fL)
 rw[e0,e1,e2]
 cases w with
 | nil =>
  rw[av rfl]
  exact fN v0 rfl
 | cons y l =>
  rw[aq (by simp)]
  simp only[oc]
  rw[yK y 39 (n:=39) rfl,yK y 35 (n:=35) rfl]
  have hv:=sd.eq_def (y :: l)
  rw[M2 (by simp)] at hv
  by_cases h39:y=39
  ·rw[av h39,show(1:Int)=((1:Nat):Int) from rfl,eg (by simp)]
   rw[M5 (by rw[h39]; rfl)] at hv
   rw[N3] at hw
   exact(E0 (v:=vT (ba ((y :: l).drop 1))) (by show(ba _).size≤_; rw[aB]; simp; omega)).trans (fN _ hv)
  ·rw[aq h39]
   rw[M2 (by simpa using h39)] at hv
   by_cases ht:(y :: l)=fi
   ·rw[M5 ht] at hv
    rw[av ht,av ht,av ht]
    exact(E0 (v:=vB true) (by decide)).trans (fN _ hv)
   ·rw[M2 ht] at hv
    rw[aq ht]
    by_cases hf:(y :: l)=fL
    ·rw[M5 hf] at hv
     rw[av hf,aq ht]
     exact(E0 (v:=vB false) (by decide)).trans (fN _ hv)
    ·rw[M2 hf] at hv
     rw[aq hf]
     by_cases h35:y=35
     ·rw[av h35]
      rw[M5 (by rw[h35]; rfl)] at hv
      exact Lb.trans (fN _ hv)
     ·rw[aq h35]
      rw[M2 (by simpa using h35)] at hv
      exact(Jq hw rfl).trans (fN _ hv)
theorem tL {n:Int} (h:n < 0):eL n=ba (45 :: O1 (-n).toNat):=by
 rw[tC h,show -n=((-n).toNat:Int) by omega,kW,show(⟨#[45]⟩:L9)=ba [45] from rfl,lM]
 congr 2
theorem CK {u:Nat}:O1 u≠[]∧(O1 u).head? ≠ some 39∧(O1 u).head? ≠ some 35∧(O1 u).head? ≠ some 45∧O1 u≠fi∧O1 u≠fL:=by
 obtain⟨y,l,hy,hd⟩:=xI u
 rw[hy]
 have hn : ∀ c:UInt8,cB c=false→y≠c:=by
  rintro c hc rfl
  rw[hd] at hc
  cases hc
 refine⟨by simp,?_,?_,?_,?_,?_⟩
 ·simpa using hn 39 (by decide)
 ·simpa using hn 35 (by decide)
 ·simpa using hn 45 (by decide)
 ·intro e
  exact hn 84 (by decide) (Y8 e).1
 ·intro e
  exact hn 70 (by decide) (Y8 e).1
theorem Gk {u:Nat} (h:u≤1000000000000000):(O1 u).length≤16:=xw 15 u (by omega)
theorem Kr {v:ay} (h:aM v=true) (k:v.1≠2):v.2.2.1=eS:=by
 unfold aM at h
 rw[M2 k] at h
 simp only[M7,M9] at h
 exact h.1
theorem Ks {v:ay} (h:aM v=true) (k:v.1=0):v.2.1=0:=by
 unfold aM at h
 rw[M2 (by omega),M5 k] at h
 simp only[M7,M9] at h
 exact h.2
theorem Kt {v:ay} (h:aM v=true) (k:v.1=2):v.2.1=0:=by
 unfold aM at h
 rw[M5 k] at h
 simp only[M7,M9] at h
 exact h.1
theorem pv {v:ay} (h:aM v=true):v=v0∨(∃ n,v=vN n ∧ -1000000000000000≤n∧n≤1000000000000000)∨(∃ s,v=vT s)∨(∃ b,v=vB b) ∨ ∃ n:Fin 6,v=vE (n.val:Int)∧1≤n.val:=by
 obtain⟨k,n,s,u⟩:=v
 have hS:=fun hk=>Kr h hk
 rcases Ge h with hk | hk | hk | hk | hk <;> simp only at hk <;> subst hk
 ·have h0:=Ks h rfl
  have h1:=hS (by show(_:Int)≠2; omega)
  simp only at h0 h1
  subst h0; subst h1
  exact .inl rfl
 ·have h0:=uq h rfl
  have h1:=hS (by show(_:Int)≠2; omega)
  simp only at h0 h1
  subst h1
  exact .inr (.inl ⟨n,rfl,h0.1,h0.2⟩)
 ·have h0:=Kt h rfl
  simp only at h0
  subst h0
  exact .inr (.inr (.inl ⟨s,rfl⟩))
 ·have h0:=EV h rfl
  have h1:=hS (by show(_:Int)≠2; omega)
  simp only at h0 h1
  subst h1
  refine .inr (.inr (.inr (.inl ⟨decide (n=1),?_⟩)))
  have:n=0∨n=1:=by omega
  rcases this with rfl | rfl <;> rfl
 ·have h0:=ur h rfl
  have h1:=hS (by show(_:Int)≠2; omega)
  simp only at h0 h1
  subst h1
  refine .inr (.inr (.inr (.inr ⟨⟨n.toNat,by omega⟩,?_,by simp; omega⟩)))
  show _=vE ((n.toNat:Nat):Int)
  rw[T7 (by omega)]
  rfl
theorem Jr {v:ay} (h:aM v=true):sd (lb (cT v))=v:=by
 rcases pv h with rfl | ⟨n,rfl,h0,h1⟩ | ⟨s,rfl⟩ | ⟨b,rfl⟩ | ⟨n,rfl,h0⟩
 ·rfl
 ·have e:cT (vN n)=eL n:=rfl
  rw[e]
  by_cases hn:n < 0
  ·rw[tL hn,cP]
   have hr:bT (O1 (-n).toNat) 16=true:=tJ (Gk (by omega))
   unfold sd
   simp only[T5,Q1,S9,hr,od]
   rw[M2 (by simp),M2 (by decide),M2 (by unfold fi; simp),M2 (by unfold fL; simp),M2 (by decide),M5 trivial,M5 ⟨trivial,by omega⟩]
   congr 1
   omega
  ·rw[show n=(n.toNat:Int) by omega,kW,cP]
   have hr:bT (O1 n.toNat) 16=true:=tJ (Gk (by omega))
   obtain⟨d1,d2,d3,d4,d5,d6⟩:=CK (u:=n.toNat)
   unfold sd
   rw[M2 d1,M2 d2,M2 d5,M2 d6,M2 d3,M2 d4,M5 hr,od]
 ·have e:lb (cT (vT s))=39 :: lb s:=by
   show lb ((⟨#[39]⟩:L9)++s)=_
   rw[←gt s,show(⟨#[39]⟩:L9)=ba [39] from rfl,lM,cP]
   simp
  rw[e]
  unfold sd
  rw[M2 (by simp),M5 (by rfl)]
  simp only[Q1,S9,gt]
 ·cases b <;> rfl
 ·have e:lb (cT (vE (n.val:Int)))=lb (cA (n.val:Int)):=rfl
  rw[e]
  have h1 : ∀ n:Fin 6,1≤n.val→lb (cA (n.val:Int))≠[]∧(lb (cA (n.val:Int))).head? = some 35∧lb (cA (n.val:Int))≠fi∧lb (cA (n.val:Int))≠fL:=by decide +kernel
  obtain⟨a1,a2,a3,a4⟩:=h1 n h0
  unfold sd
  rw[M2 a1,M2 (by rw[a2]; decide),M2 a3,M2 a4,M5 a2,zX n h0]
  rfl
theorem Gl {v:ay} (h:aM v=true):bn (lb (cT v))=(v,true):=by
 unfold bn
 rw[Jr h,M5 h]
theorem Lc {w:ae} (h:aM (sd w)=true):cT (sd w)=ba w:=by
 unfold sd at h ⊢
 split
 ·rename_i hw
  rw[hw]
  rfl
 ·rename_i hw
  rw[M2 hw] at h
  split
  ·rename_i h39
   cases w with
   | nil=>cases h39
   | cons y l =>
    simp only[T5,O2] at h39
    subst h39
    show(⟨#[39]⟩:L9)++ba l=_
    rw[show(⟨#[39]⟩:L9)=ba [39] from rfl,lM]
    rfl
  ·rename_i h39
   rw[M2 h39] at h
   split
   ·rename_i ht
    rw[ht]
    rfl
   ·rename_i ht
    rw[M2 ht] at h
    split
    ·rename_i hf
     rw[hf]
     rfl
    ·rename_i hf
     rw[M2 hf] at h
     split
     ·rename_i h35
      rw[M5 h35] at h
      have:=ur h rfl
      simp only at this
      exact(Kq (by omega)).1
     ·rename_i h35
      rw[M2 h35] at h
      have e9:aM (9,0,eS,())=false:=by decide
      split
      ·rename_i h45
       rw[M5 h45] at h
       split
       ·rename_i hc
        cases w with
        | nil=>cases h45
        | cons y l =>
         simp only[T5,O2] at h45
         subst h45
         simp only[Q1,S9] at hc ⊢
         show eL (-((aR 0 l:Nat):Int))=_
         rw[tL (by omega),show(- -((aR 0 l:Nat):Int)).toNat=aR 0 l by omega,(we hc.1).1]
       ·rename_i hc
        rw[M2 hc,e9] at h
        cases h
      ·rename_i h45
       rw[M2 h45] at h
       split
       ·rename_i hc
        show eL ((aR 0 w:Nat):Int)=_
        rw[kW,(we hc).1]
       ·rename_i hc
        rw[M2 hc,e9] at h
        cases h
theorem oh {w:ae} (h:(bn w).2=true):aM (bn w).1=true∧cT (bn w).1=ba w:=by
 unfold bn at h ⊢
 split at h
 ·rename_i hc
  rw[M5 hc]
  exact⟨hc,Lc hc⟩
 ·cases h
theorem Js {w:ae} (h:(bn w).2=false):bn w=(v0,false):=by
 unfold bn at h ⊢
 split at h
 ·cases h
 ·rename_i hc
  rw[M2 hc]
theorem E1 : ∀(l:ae) (a:Nat),a≤aR a l
 | [],a=>N4 _
 | c :: l,a=>by
  have:=E1 l (a*10+(c.toNat - 48))
  show a≤aR (a*10+(c.toNat - 48)) l
  omega
theorem Ba : ∀(l:ae) (a:Nat),l.all cB=true→aR a l≤100000000000000000→X1 18446744073709551615 a l = .ok (aR a l)
 | [],a,_,_=>rfl
 | c :: l,a,h,hv=>by
  simp only[U1,M7] at h
  have hd:48≤c.toNat∧c.toNat≤57:=by simpa[cB] using h.1
  have hg:=E1 l (a*10+(c.toNat - 48))
  have hv':aR (a*10+(c.toNat - 48)) l≤100000000000000000:=hv
  unfold X1
  rw[M5 hd,M2 (by omega),M2 (by omega),Ba l _ h.2 hv']
  rfl
theorem Ku {l:ae} (h:fK l=true):l.all cB=true:=by
 unfold fK at h
 simp only[M7] at h
 exact h.1.1
theorem HY {u:Nat} (h:u≤1000000000000000):ac_ 64 (O1 u) = .ok u:=by
 unfold ac_
 rw[M2 CK.1]
 have:=Ba (O1 u) 0 (Ku (wc u)) (by rw[od]; omega)
 rw[od] at this
 exact this
theorem Gm {u:Nat} (h:u≤1000000000000000):bD (O1 u)=((u:Int),true):=by
 obtain⟨y,l,hy,hd⟩:=xI u
 have hd':48≤y.toNat∧y.toNat≤57:=by simpa[cB] using hd
 have hp:=HY h
 unfold bD
 have:U5 64 (O1 u) = .ok (u:Int):=by
  rw[hy] at hp ⊢
  unfold U5
  simp only
  rw[M2 (by omega),hp]
  simp only
  rw[M2 (by omega),M2 (by omega),M2 (by omega)]
 rw[this]
theorem Gn {u:Nat} (h:u≤1000000000000000):bD (45 :: O1 u)=(-(u:Int),true):=by
 have hp:=HY h
 unfold bD
 have:U5 64 (45 :: O1 u) = .ok (-(u:Int)):=by
  unfold U5
  simp only
  have h45:(45:UInt8).toNat=45:=rfl
  rw[M5 (.inr h45),hp]
  simp only
  rw[M2 (by omega),M2 (by omega),M5 h45]
 rw[this]
def cV (w:ae):ay :=
 if([39]:ae).isPrefixOf w=true then vT (ba (w.drop 1)) else
 if w=fL then vB (decide (w=fi)) else
 if w=fi then vB (decide (w=fi)) else
 if([35]:ae).isPrefixOf w=true then(if dh w=0 then v0 else vE (dh w)) else
 if w≠[] then vN (bD w).1 else v0
theorem uv {v:ay} {w:ae} (h:v.2.2.1.size≤9223372036854775807):((eE v).bind fun z2=>(if(!z2.1.1)=true then(some (((0,0,(⟨#[]⟩:L9),()),false,()),(()))) else((dD v).bind fun z3=>(if(!(M1 z3.1.1 == M1 (ba w)))=true then(some (((0,0,(⟨#[]⟩:L9),()),false,()),(()))) else(some ((v,true,()),(())))))))=some ((if aM v=true∧cT v=ba w then v else v0,decide (aM v=true∧cT v=ba w),()),()):=by
 rw[pn h]
 simp only[M0]
 cases ho:aM v with
 | false=>simp; rfl
 | true =>
  rw[r9 ho]
  simp only[M0,O5,M8,O0,zz,true_and]
  by_cases hv:cT v=ba w
  ·simp[hv]
  ·simp[hv]; rfl
theorem Ld {w:ae} (hc : ∀ v:ay,aM v=true→cT v=ba w→cV w=v):(if aM (cV w)=true∧cT (cV w)=ba w then cV w else v0)=(bn w).1∧decide (aM (cV w)=true∧cT (cV w)=ba w)=(bn w).2:=by
 by_cases h:aM (cV w)=true∧cT (cV w)=ba w
 ·have:=Gl h.1
  rw[h.2,cP] at this
  rw[M5 h,O6 h,this]
  exact⟨rfl,rfl⟩
 ·rw[M2 h,O7 h]
  cases h2:(bn w).2 with
  | false=>rw[Js h2]; exact⟨rfl,rfl⟩
  | true =>
   obtain⟨k1,k2⟩:=oh h2
   refine P1 ?_ h
   rw[hc _ k1 k2]
   exact⟨k1,k2⟩
theorem Kv {v:ay} (h:aM v=true):cV (lb (cT v))=v:=by
 rcases pv h with rfl | ⟨n,rfl,h0,h1⟩ | ⟨s,rfl⟩ | ⟨b,rfl⟩ | ⟨n,rfl,h0⟩
 ·rfl
 ·have e:cT (vN n)=eL n:=rfl
  rw[e]
  by_cases hn:n < 0
  ·rw[tL hn,cP]
   unfold cV
   rw[M2 (by simp),M2 (by unfold fL; simp),M2 (by unfold fi; simp),M2 (by simp),M5 (by simp),Gn (by omega)]
   congr 1
   simp only
   omega
  ·rw[show n=(n.toNat:Int) by omega,kW,cP]
   obtain⟨d1,d2,d3,d4,d5,d6⟩:=CK (u:=n.toNat)
   have hp:=Gm (u:=n.toNat) (by omega)
   obtain⟨y,l,hy,hd⟩:=xI n.toNat
   rw[hy] at d1 d2 d3 d4 d5 d6 hp ⊢
   unfold cV
   rw[M2 (by rw[dW]; simpa using d2),M2 d6,M2 d5,M2 (by rw[dW]; simpa using d3),M5 d1,hp]
 ·have e:lb (cT (vT s))=39 :: lb s:=by
   show lb ((⟨#[39]⟩:L9)++s)=_
   rw[←gt s,show(⟨#[39]⟩:L9)=ba [39] from rfl,lM,cP]
   simp
  rw[e]
  unfold cV
  rw[M5 (by simp)]
  simp only[Q1,S9,gt]
 ·cases b <;> rfl
 ·have e:lb (cT (vE (n.val:Int)))=lb (cA (n.val:Int)):=rfl
  rw[e]
  have h1 : ∀ n:Fin 6,1≤n.val→([39]:ae).isPrefixOf (lb (cA (n.val:Int)))=false∧([35]:ae).isPrefixOf (lb (cA (n.val:Int)))=true∧lb (cA (n.val:Int))≠fi∧lb (cA (n.val:Int))≠fL:=by decide +kernel
  obtain⟨a1,a2,a3,a4⟩:=h1 n h0
  unfold cV
  rw[M2 (by rw[a1]; decide),M2 a4,M2 a3,M5 a2,zX n h0,M2 (by omega)]
theorem qy {w:ae} {n:Int} (h0:0≤n) (h1:n≤5) {a b d e:Int} {c f:L9}:eb (ba w) n a b c d e f=eb (ba w) (n+1) a b c (if cA n=ba w then 4 else d) (if cA n=ba w then n else e) (if cA n=ba w then eS else f):=by
 rw[n4,av h1,l9 h0 h1]
 simp only[M0,zz,M9,zR]
 rw[wr (by omega) (by omega)]
 split <;> rfl
theorem yL {α:Type} (w:ae) (f:Int→α) (z:α) (hz:z=f 0):(if cA 5=ba w then f 5 else if cA 4=ba w then f 4 else if cA 3=ba w then f 3 else if cA 2=ba w then f 2 else if cA 1=ba w then f 1 else z)=f (dh w):=by
 unfold dh
 subst hz
 repeat' split <;> first | rfl | skip
theorem LK {w:ae}:eb (ba w) 1 0 0 eS 0 0 eS=some ((if aM (if dh w=0 then v0 else vE (dh w))=true∧cT (if dh w=0 then v0 else vE (dh w))=ba w then(if dh w=0 then v0 else vE (dh w)) else v0,decide (aM (if dh w=0 then v0 else vE (dh w))=true∧cT (if dh w=0 then v0 else vE (dh w))=ba w),()),()):=by
 rw[qy (by decide) (by decide),qy (by decide) (by decide),qy (by decide) (by decide),qy (by decide) (by decide),qy (by decide) (by decide),n4,aq (by decide)]
 have e1:=yL w (fun n=>if n=0 then(0:Int) else 4) 0 (by simp)
 have e2:=yL w (fun n=>n) 0 rfl
 have e3:=yL w (fun n=>eS) eS rfl
 simp only[show(1:Int)+1=2 from rfl,show(2:Int)+1=3 from rfl,show(3:Int)+1=4 from rfl,show(4:Int)+1=5 from rfl]
 simp only[show(5:Int)=0↔False by decide,show(4:Int)=0↔False by decide,show(3:Int)=0↔False by decide,show(2:Int)=0↔False by decide,show(1:Int)=0↔False by decide,O0] at e1
 rw[e1,e2,e3]
 have e:((if dh w=0 then(0:Int) else 4),dh w,eS,())=(if dh w=0 then v0 else vE (dh w)):=by
  by_cases h:dh w=0
  ·rw[M5 h,M5 h,h]
   rfl
  ·rw[M2 h,M2 h]
   rfl
 rw[e]
 exact uv (by split <;> (show eS.size≤_; decide))
theorem md {w:ae} (hw:w.length≤281474976710656):f0 (ba w)=some (((bn w).1,(bn w).2,()),()):=by
 obtain⟨p1,p2⟩:=Ld (w:=w) (fun v h1 h2=>by have:=Kv h1; rw[h2,cP] at this; exact this)
 have fN : ∀ v:ay,cV w=v→(some ((if aM v=true∧cT v=ba w then v else v0,decide (aM v=true∧cT v=ba w),()),()):Option ((ay×Bool×Unit)×Unit))=some (((bn w).1,(bn w).2,()),()):=by
  rintro v rfl
  rw[p1,p2]
 have hv:=cV.eq_def w
 have e1:(M1 (ba w) == M1 (⟨#[84,82,85,69]⟩:L9))=decide (w=fi):=cI (b:=fi)
 have e2:(M1 (ba w) == M1 (⟨#[70,65,76,83,69]⟩:L9))=decide (w=fL):=cI (b:=fL)
 have e0:(M1 (ba w) == M1 (⟨#[]⟩:L9))=decide (w=[]):=cI (b:=[])
 rw[AN,show(⟨#[39]⟩:L9)=ba [39] from rfl,oV w [39] (by omega),show(⟨#[35]⟩:L9)=ba [35] from rfl,lN w [35] (by omega),e0,e1,e2]
 simp only[M0,HN]
 cases h39:([39]:ae).isPrefixOf w with
 | true =>
  rw[M5 h39] at hv
  simp only[O4]
  refine(uv (v:=vT (ba (w.drop 1))) ?_).trans (fN _ hv)
  show(ba _).size≤_
  rw[aB]
  simp
  omega
 | false =>
  rw[M2 (by rw[h39]; decide)] at hv
  simp only[M8,O0]
  by_cases hf:w=fL
  ·rw[M5 hf] at hv
   rw[av hf]
   exact(uv (v:=vB (decide (w=fi))) (by show eS.size≤_; decide)).trans (fN _ hv)
  ·rw[M2 hf] at hv
   rw[aq hf]
   by_cases ht:w=fi
   ·rw[M5 ht] at hv
    rw[av ht]
    exact(uv (v:=vB (decide (w=fi))) (by show eS.size≤_; decide)).trans (fN _ hv)
   ·rw[M2 ht] at hv
    rw[aq ht]
    cases h35:([35]:ae).isPrefixOf w with
    | true =>
     rw[M5 h35] at hv
     simp only[O4]
     exact LK.trans (fN _ hv)
    | false =>
     rw[M2 (by rw[h35]; decide)] at hv
     simp only[M8,O0]
     by_cases he:w=[]
     ·rw[M2 (by simpa using he)] at hv
      simp only[he,Q6,O5,M8,O0]
      rw[he] at hv fN
      exact(uv (v:=v0) (w:=[]) (by decide)).trans (fN _ hv)
     ·rw[M5 he] at hv
      simp only[he,S0,O8,O4,pu hw,M0,xv]
      exact(uv (v:=vN (bD w).1) (by show eS.size≤_; decide)).trans (fN _ hv)
def JY (c:UInt8):Bool:=decide (c=32)
def bl (l:ae):ae:=l.dropWhile JY
def aK (c:UInt8):Bool:=dp c || cB c || decide (c=36)
theorem Le:(fun c=>([32]:ae).contains c)=JY:=funext fun c=>wb (p:=fun c=>([32]:ae).contains c=JY c) (by decide +kernel) c
theorem Lf:(fun c=>([65,66,67,68,69,70,71,72,73,74,75,76,77,78,79,80,81,82,83,84,85,86,87,88,89,90,48,49,50,51,52,53,54,55,56,57,36]:ae).contains c)=aK:=funext fun c=>wb (p:=fun c=>([65,66,67,68,69,70,71,72,73,74,75,76,77,78,79,80,81,82,83,84,85,86,87,88,89,90,48,49,50,51,52,53,54,55,56,57,36]:ae).contains c=aK c) (by decide +kernel) c
theorem xJ (p:UInt8→Bool) : ∀ l:ae,(l.dropWhile p).dropWhile p=l.dropWhile p
 | []=>rfl
 | c :: l=>by
  cases h:p c with
  | true=>rw[X6 h,xJ p l]
  | false =>
   have h' : ¬p c=true:=by rw[h]; decide
   rw[S6 h',S6 h']
theorem cw (l:ae):bl (bl l)=bl l:=xJ _ _
theorem al (l:ae):bl l <:+ l:=List.dropWhile_suffix _
theorem au {a b:ae} (h:a <:+ b):a.length≤b.length:=h.length_le
theorem kk (l:ae) (b:Bool) (ns:List ab):ew (ba l) b ns=some ((),((ba (bl l),ns,b,()),())):=by
 rw[uG,show(⟨#[32]⟩:L9)=ba [32] from rfl,pq _ _ (by decide +kernel),Le]
 rfl
def JZ:List ae:=[[60,62],[60,61],[62,61],[60],[62],[61],[38],[43],[45],[42],[47],[40],[41],[44],[58]]
def sg (l:ae):ae:=(JZ.find? fun p=>p.isPrefixOf l).getD []
theorem xK {l:ae} {b:Bool} {ns:List ab} (hl:l.length≤1000) {X:List L9} (hX:X.length≤100) : ∀(ys:List ae) (pre:List L9),X=pre++ys.map (fun x=>ba x)→gr (X.length:Int) (pre.length:Int) (ba l) b X ns=some ((ba ((ys.find? fun p=>p.isPrefixOf l).getD []),()),((ba l,ns,b,()),()))
 | [],pre,h=>by
  rw[lI,aq (df (by simpa using h))]
  rfl
 | y :: ys,pre,h=>by
  have h':X=pre++ba y :: ys.map (fun x=>ba x):=by simpa using h
  have hd:R0 X (P9 (pre.length:Int)) (⟨#[]⟩:L9)=ba y:=by rw[h']; exact pQ
  rw[lI,av (bQ h'),iI h',hd,lN _ _ (by omega)]
  simp only[M0,U2]
  cases hy:y.isPrefixOf l with
  | true=>rfl
  | false =>
   simp only[M8,O0]
   rw[aV h' (by omega)]
   exact xK hl hX ys (pre++[ba y]) (by rw[h']; simp)
theorem CL {l:ae} {b:Bool} {ns:List ab} (hl:l.length≤1000):j6 (ba l) b ns=some ((ba (sg (bl l)),()),((ba (bl l),ns,b,()),())):=by
 rw[xi,kk]
 simp only[M0]
 have:=au (al l)
 exact xK (by omega) (by decide) JZ [] rfl
theorem CM (l:ae):(sg l).isPrefixOf l=true:=by
 unfold sg
 cases h:JZ.find? fun p=>p.isPrefixOf l with
 | none=>simp
 | some p =>
  have:=List.find?_some h
  simpa using this
theorem uw {p l:ae} (h:p.isPrefixOf l=true):p.length≤l.length:=(V0.1 h).length_le
theorem cL {l w:ae} {b:Bool} {ns:List ab} (hl:l.length≤1000):aY (ba w) (ba l) b ns=some ((decide (sg (bl l)=w),()),((ba (if sg (bl l)=w then(bl l).drop w.length else bl l),ns,b,()),())):=by
 rw[xj,CL hl]
 simp only[M0,cI]
 by_cases h:sg (bl l)=w
 ·have:=uw (CM (bl l))
  rw[h] at this
  simp only[h,Q6,O5,M8,O0,O4,aB]
  rw[eg this]
 ·simp[h]
def gO (y:UInt8) (a b:Bool):Int:=if y=60 then(if a=true then 7 else if b=true then 9 else 8) else if y=62 then(if b=true then 11 else 10) else if y=61 then 6 else if y=38 then 5 else if y=43 then 1 else if y=45 then 2 else if y=42 then 3 else if y=47 then 4 else 0
def gS (y:UInt8) (a b:Bool):ae:=if y=60 then(if a=true then [60,62] else if b=true then [60,61] else [60]) else if y=62 then(if b=true then [62,61] else [62]) else if y=61 then [61] else if y=38 then [38] else if y=43 then [43] else if y=45 then [45] else if y=42 then [42] else if y=47 then [47] else if y=40 then [40] else if y=41 then [41] else if y=44 then [44] else if y=58 then [58] else []
def dC (l:ae):Int:=match l with
 | []=>0
 | y :: t=>gO y (decide (t.head? = some 62)) (decide (t.head? = some 61))
def cY (k:Int):ae:=([[],[43],[45],[42],[47],[38],[61],[60,62],[60],[60,61],[62],[62,61]]:List ae).getD k.toNat []
theorem yM (y:UInt8) (t:ae):sg (y :: t)=gS y (decide (t.head? = some 62)) (decide (t.head? = some 61)):=by
 unfold sg JZ
 simp only[U2,List.find?_nil,dW,wa]
 generalize decide (t.head? = some 62)=a
 generalize decide (t.head? = some 61)=b
 have : ∀ a b:Bool,(Option.getD (match decide (y=60) && a with | true=>some [60,62] | false=>match decide (y=60) && b with | true=>some [60,61] | false=>match decide (y=62) && b with | true=>some [62,61] | false=>match decide (y=60) with | true=>some [60] | false=>match decide (y=62) with | true=>some [62] | false=>match decide (y=61) with | true=>some [61] | false=>match decide (y=38) with | true=>some [38] | false=>match decide (y=43) with | true=>some [43] | false=>match decide (y=45) with | true=>some [45] | false=>match decide (y=42) with | true=>some [42] | false=>match decide (y=47) with | true=>some [47] | false=>match decide (y=40) with | true=>some [40] | false=>match decide (y=41) with | true=>some [41] | false=>match decide (y=44) with | true=>some [44] | false=>match decide (y=58) with | true=>some [58] | false=>none) []:ae)=gS y a b :=
  wb (p:=fun y => ∀ a b:Bool,(Option.getD (match decide (y=60) && a with | true=>some [60,62] | false=>match decide (y=60) && b with | true=>some [60,61] | false=>match decide (y=62) && b with | true=>some [62,61] | false=>match decide (y=60) with | true=>some [60] | false=>match decide (y=62) with | true=>some [62] | false=>match decide (y=61) with | true=>some [61] | false=>match decide (y=38) with | true=>some [38] | false=>match decide (y=43) with | true=>some [43] | false=>match decide (y=45) with | true=>some [45] | false=>match decide (y=42) with | true=>some [42] | false=>match decide (y=47) with | true=>some [47] | false=>match decide (y=40) with | true=>some [40] | false=>match decide (y=41) with | true=>some [41] | false=>match decide (y=44) with | true=>some [44] | false=>match decide (y=58) with | true=>some [58] | false=>none) []:ae)=gS y a b) (by decide +kernel) y
 exact this a b
theorem iK {c:UInt8} (hc:c=45∨c=40∨c=41∨c=44∨c=58) (l:ae):(sg l=[c])=(l.head? = some c):=by
 apply propext
 constructor
 ·intro h
  have:=CM l
  rw[h,v8] at this
  exact of_decide_eq_true this
 ·intro h
  cases l with
  | nil=>cases h
  | cons y t =>
   simp only[T5,O2] at h
   subst h
   rw[yM]
   rcases hc with rfl | rfl | rfl | rfl | rfl <;> rfl
def Lg (s:ae):Int:=if cY 11=s then 11 else if cY 10=s then 10 else if cY 9=s then 9 else if cY 8=s then 8 else if cY 7=s then 7 else if cY 6=s then 6 else if cY 5=s then 5 else if cY 4=s then 4 else if cY 3=s then 3 else if cY 2=s then 2 else if cY 1=s then 1 else 0
theorem CN (y:UInt8) : ∀ a b:Bool,Lg (gS y a b)=gO y a b∧(gO y a b≠0→gS y a b=cY (gO y a b))∧0≤gO y a b∧gO y a b≤11 :=
 wb (p:=fun y => ∀ a b:Bool,Lg (gS y a b)=gO y a b∧(gO y a b≠0→gS y a b=cY (gO y a b))∧0≤gO y a b∧gO y a b≤11) (by decide +kernel) y
theorem Lh (l:ae):Lg (sg l)=dC l:=by
 cases l with
 | nil=>decide
 | cons y t =>
  rw[yM]
  exact(CN y _ _).1
theorem rE {l:ae} (h:dC l≠0):sg l=cY (dC l):=by
 cases l with
 | nil=>exact P1 rfl h
 | cons y t =>
  rw[yM]
  exact(CN y _ _).2.1 h
theorem lO (l:ae):0≤dC l∧dC l≤11:=by
 cases l with
 | nil=>decide
 | cons y t=>exact(CN y _ _).2.2
theorem rF {k:Int} (h0:0≤k) (h1:k≤11):qc k=some ((ba (cY k),()),()):=by
 rw[F6,iH h0 (by show k < 12; omega)]
 have : ∀ k:Fin 12,R0 ([(⟨#[]⟩:L9),(⟨#[43]⟩:L9),(⟨#[45]⟩:L9),(⟨#[42]⟩:L9),(⟨#[47]⟩:L9),(⟨#[38]⟩:L9),(⟨#[61]⟩:L9),(⟨#[60,62]⟩:L9),(⟨#[60]⟩:L9),(⟨#[60,61]⟩:L9),(⟨#[62]⟩:L9),(⟨#[62,61]⟩:L9)]:(List L9)) k.val (⟨#[]⟩:L9)=ba (cY (k.val:Int)):=by decide +kernel
 have h:=this ⟨k.toNat,by omega⟩
 simp only[T7 h0] at h
 rw[h]
theorem rG {k:Int} (h0:0≤k) (h1:k≤11):p6 k=some ((ba (cY k),()),()):=by
 rw[FV,iH h0 (by show k < 12; omega)]
 have : ∀ k:Fin 12,R0 ([(⟨#[]⟩:L9),(⟨#[43]⟩:L9),(⟨#[45]⟩:L9),(⟨#[42]⟩:L9),(⟨#[47]⟩:L9),(⟨#[38]⟩:L9),(⟨#[61]⟩:L9),(⟨#[60,62]⟩:L9),(⟨#[60]⟩:L9),(⟨#[60,61]⟩:L9),(⟨#[62]⟩:L9),(⟨#[62,61]⟩:L9)]:(List L9)) k.val (⟨#[]⟩:L9)=ba (cY (k.val:Int)):=by decide +kernel
 have h:=this ⟨k.toNat,by omega⟩
 simp only[T7 h0] at h
 rw[h]
theorem zY {least deep left op k:Int} {l:ae} {b:Bool} {ns:List ab} (hl:l.length≤1000) (h0:0≤k) (h1:k≤11) :
  bF least deep left op k (ba l) b ns=bF least deep left (if cY k=sg (bl l) then k else op) (k+1) (ba (bl l)) b ns:=by
 rw[ke,av h1,CL hl]
 simp only[M0]
 rw[rF h0 h1]
 simp only[M0,cI,M9]
 rw[wr (by omega) (by omega)]
 by_cases h:sg (bl l)=cY k
 ·rw[M5 h,M5 h.symm]
 ·rw[M2 h,M2 (Ne.symm h)]
theorem wg {least deep left:Int} {l:ae} {b:Bool} {ns:List ab} (hl:l.length≤1000) :
  bF least deep left 0 1 (ba l) b ns=bF least deep left (dC (bl l)) 12 (ba (bl l)) b ns:=by
 have:=au (al l)
 have st : ∀(op k:Int),0≤k→k≤11→bF least deep left op k (ba (bl l)) b ns=bF least deep left (if cY k=sg (bl l) then k else op) (k+1) (ba (bl l)) b ns:=by
  intro op k h0 h1
  rw[zY (by omega) h0 h1,cw]
 rw[zY hl (by decide) (by decide),st _ (1+1) (by decide) (by decide),st _ (1+1+1) (by decide) (by decide),st _ (1+1+1+1) (by decide) (by decide),st _ (1+1+1+1+1) (by decide) (by decide),st _ (1+1+1+1+1+1) (by decide) (by decide),
  st _ (1+1+1+1+1+1+1) (by decide) (by decide),st _ (1+1+1+1+1+1+1+1) (by decide) (by decide),st _ (1+1+1+1+1+1+1+1+1) (by decide) (by decide),st _ (1+1+1+1+1+1+1+1+1+1) (by decide) (by decide),st _ (1+1+1+1+1+1+1+1+1+1+1) (by decide) (by decide)]
 rw[←Lh (bl l)]
 rfl
def bd (s l:ae):Int:=(s.length:Int) - (l.length:Int)
theorem jk {s l:ae} (h:l <:+ s) : ∃ pre,s=pre++l∧bd s l=(pre.length:Int):=by
 obtain⟨pre,h⟩:=h
 refine⟨pre,h.symm,?_⟩
 unfold bd
 rw[←h,M6]
 omega
theorem xL {s:ae} {b:Bool} {ns:List ab} (hs:s.length≤1000) : ∀(l:ae),l <:+ s→gq (ba s) (bd s l) b ns=some ((),((ba s,bd s (bl l),b,ns,()),()))
 | [],h=>by
  rw[lH,aq (by rw[aB]; unfold bd; simp)]
  rfl
 | c :: l,h=>by
  obtain⟨pre,h1,h2⟩:=jk h
  have hl:pre.length < s.length:=by rw[h1]; simp
  rw[lH,h2,av (by rw[aB]; omega),fh h1]
  by_cases hc:c=32
  ·subst hc
   have hl':l <:+ s:=List.IsSuffix.trans (List.suffix_cons _ _) h
   rw[M5 (by rfl),wr (by omega) (by omega)]
   have e:(pre.length:Int)+1=bd s l:=by
    rw[←h2]
    unfold bd
    rw[N3]
    omega
   rw[e,xL hs l hl']
   rfl
  ·have h0' : ¬((c.toNat:Int) == 32)=true:=by
    simp only[S1]
    intro e
    apply hc
    apply UInt8.toNat_inj.1
    show c.toNat=32
    omega
   rw[M2 h0',←h2]
   have:bl (c :: l)=c :: l:=S6 (by simp[JY,hc])
   rw[this]
theorem CO {s l:ae} {b:Bool} {ns:List ab} (hs:s.length≤1000) (h:l <:+ s):fD (ba s) (bd s l) b ns=some ((),((ba s,bd s (bl l),b,ns,()),())):=by
 rw[xc]
 exact xL hs l h
theorem ac {a b c:ae} (h:a <:+ b) (k:b <:+ c):a <:+ c:=List.IsSuffix.trans h k
theorem dB (n:Nat) (l:ae):l.drop n <:+ l:=List.drop_suffix n l
theorem eI {s l w:ae} {b:Bool} {ns:List ab} (hs:s.length≤1000) (hw:w.length≤1000) (h:l <:+ s) :
  cy (ba w) (ba s) (bd s l) b ns=some (((!b && w.isPrefixOf (bl l)),()),((ba s,bd s (if(!b && w.isPrefixOf (bl l))=true then(bl l).drop w.length else bl l),b,ns,()),())):=by
 have hb:=ac (al l) h
 rw[DV,CO hs h]
 simp only[M0]
 cases b with
 | true=>rfl
 | false =>
  simp only[M8,O0,O8,P4,aB]
  generalize bl l=m at hb
  obtain⟨pre,h1,h2⟩:=jk hb
  have hl:pre.length+m.length=s.length:=by rw[h1]; simp
  rw[h2,wr (by omega) (by omega)]
  by_cases hm:w.length≤m.length
  ·rw[aq (by omega),show(pre.length:Int)+(w.length:Int)=((pre.length+w.length:Nat):Int) by omega,qw (by omega) (by omega),cI]
   have e:(s.take (pre.length+w.length)).drop pre.length=m.take w.length:=by
    rw[h1,List.take_append,List.drop_append]
    simp
   rw[e]
   have e2:decide (m.take w.length=w)=w.isPrefixOf m:=by
    rw[R8,M9,V0,List.prefix_iff_eq_take]
    exact eq_comm
   rw[e2]
   cases w.isPrefixOf m with
   | true =>
    simp only[O5,M8,O0,O4]
    have e5:((pre.length+w.length:Nat):Int)=bd s (m.drop w.length):=by
     unfold bd
     rw[X0]
     omega
    rw[e5]
   | false =>
    simp only[O8,O4,M8,O0]
    rw[h2]
  ·rw[av (by omega)]
   have e2:w.isPrefixOf m=false:=by
    rw[Bool.eq_false_iff]
    intro hp
    exact hm (uw hp)
   rw[e2]
   simp only[M8,O0]
   rw[h2]
theorem rH {l:ae} {b:Bool} {ns:List ab} (hl:l.length≤1000):fF (ba l) b ns=some ((ba ((bl l).takeWhile aK),()),((ba ((bl l).dropWhile aK),ns,b,()),())):=by
 have:=au (al l)
 obtain⟨d1,d2,d3⟩:=tG aK (bl l)
 rw[xk,kk]
 simp only[M0]
 rw[pq _ _ (by decide +kernel),Lf]
 simp only[M0,aB]
 rw[wr (by omega) (by omega),show((bl l).length:Int) - (((bl l).dropWhile aK).length:Int)=(((bl l).length - ((bl l).dropWhile aK).length:Nat):Int) by omega,xF (by omega),eg (by omega),d1,d2]
theorem zZ {s pre l:ae} {w:Nat} {b:Bool} {ns:List ab} (h:s=pre++l) (hw:w≤pre.length) :
  (oz (ba s) (w:Int) (pre.length:Int) fun y6=>(some ((y6,()),((ba s,(pre.length:Int),b,ns,()),()))))=(some ((ba (pre.drop w),()),((ba s,bd s l,b,ns,()),())):Option ((L9×Unit)×(gj×Unit))):=by
 have hl:pre.length+l.length=s.length:=by rw[h]; simp
 rw[qw hw (by omega)]
 congr 3
 ·congr 1
  rw[h,am_ rfl]
 ·unfold bd
  congr 3
  omega
theorem xM {s:ae} {b:Bool} {ns:List ab} (hs:s.length≤1000) {w:Nat} : ∀(l pre:ae),s=pre++l→w≤pre.length→cD (w:Int) (ba s) (pre.length:Int) b ns=some ((ba (pre.drop w++l.takeWhile aK),()),((ba s,bd s (l.dropWhile aK),b,ns,()),()))
 | [],pre,h,hw=>by
  have hl:pre.length=s.length:=by rw[h]; simp
  rw[nT,aq (by rw[aB]; omega)]
  simpa using zZ (b:=b) (ns:=ns) h hw
 | y :: l,pre,h,hw=>by
  have hl:pre.length < s.length:=by rw[h]; simp
  have ih:=xM (b:=b) (ns:=ns) hs (w:=w) l (pre++[y]) (by rw[h]; simp) (by rw[M6]; omega)
  rw[show((pre++[y]).length:Int)=(pre.length:Int)+1 by simp,List.drop_append_of_le_length hw] at ih
  have he:=zZ (b:=b) (ns:=ns) h hw
  rw[nT,av (by rw[aB]; omega)]
  simp only[fh h]
  rw[wr (by omega) (by omega)]
  have h36:((y.toNat:Int) == 36)=decide (y=36):=by
   rw[R8,S1,M9]
   constructor
   ·intro e
    apply UInt8.toNat_inj.1
    show y.toNat=36
    omega
   ·rintro rfl
    rfl
  rw[h36]
  cases hy:aK y with
  | true =>
   have e1:(y :: l).takeWhile aK=y :: l.takeWhile aK:=List.takeWhile_cons_of_pos hy
   have e2:(y :: l).dropWhile aK=l.dropWhile aK:=X6 hy
   rw[e1,e2]
   have e3:pre.drop w++y :: l.takeWhile aK=pre.drop w++[y]++l.takeWhile aK:=by simp
   rw[e3,←ih]
   simp only[aK,dp,cB,Bool.or_eq_true,M7,M9] at hy
   by_cases c1:65≤y.toNat
   ·rw[av (by omega)]
    by_cases c2:y.toNat≤90
    ·rw[av (by omega)]
    ·rw[aq (by omega),av (by omega),aq (by omega)]
     exfalso
     rcases hy with(hy | hy) | rfl
     ·omega
     ·omega
     ·exact P1 c1 (by decide)
   ·rw[aq (by omega)]
    by_cases c3:48≤y.toNat
    ·rw[av (by omega)]
     by_cases c4:y.toNat≤57
     ·rw[av (by omega)]
     ·rw[aq (by omega)]
      exfalso
      rcases hy with(hy | hy) | rfl
      ·omega
      ·omega
      ·exact P1 c3 (by decide)
    ·rw[aq (by omega)]
     have:y=36:=by
      rcases hy with(hy | hy) | hy
      ·omega
      ·omega
      ·exact hy
     rw[av this]
  | false =>
   have e1:(y :: l).takeWhile aK=[]:=X5 (by rw[hy]; decide)
   have e2:(y :: l).dropWhile aK=y :: l:=S6 (by rw[hy]; decide)
   rw[e1,e2,Q9,←he]
   simp only[aK,dp,cB,Bool.or_eq_false_iff,Bool.and_eq_false_iff,decide_eq_false_iff_not] at hy
   obtain⟨⟨k1,k2⟩,k3⟩:=hy
   by_cases c1:65≤y.toNat
   ·rw[av (by omega),aq (by omega),av (by omega),aq (by omega),aq k3]
   ·rw[aq (by omega)]
    by_cases c3:48≤y.toNat
    ·rw[av (by omega),aq (by omega),aq k3]
    ·rw[aq (by omega),aq k3]
theorem wh {s l:ae} {b:Bool} {ns:List ab} (hs:s.length≤1000) (h:l <:+ s):g9 (ba s) (bd s l) b ns=some ((ba (l.takeWhile aK),()),((ba s,bd s (l.dropWhile aK),b,ns,()),())):=by
 obtain⟨pre,h1,h2⟩:=jk h
 rw[AC,h2,xM hs l pre h1 (N4 _)]
 simp
def cr (k:Int):Int:=if k≥6 then 1 else if k=5 then 2 else if k≥3 then 4 else 3
theorem pw (k:Int):nD k=some ((cr k,()),()):=by
 rw[D0]
 unfold cr
 simp only[M9,S1]
 repeat' split
 all_goals first | rfl | omega
theorem Aa {k:Int} (h0:1≤k) (h1:k≤11):tk k=some ((cr k,()),()):=by
 rw[HJ]
 unfold cr
 simp only[S1]
 repeat' split
 all_goals first | rfl | omega
abbrev oi:List Int:=[7,9,11,6,8,10,1,2,3,4,5]
def sf (L:Int) (m:ae) (k:Int):Bool:=decide (cr k=L) && (cY k).isPrefixOf m
theorem yN (k:Int):(cY k).length≤2:=by
 unfold cY
 have : ∀ i:Nat,(([[],[43],[45],[42],[47],[38],[61],[60,62],[60],[60,61],[62],[62,61]]:List ae).getD i []).length≤2:=by
  intro i
  by_cases hi:i < 12
  ·have h : ∀ j:Fin 12,(([[],[43],[45],[42],[47],[38],[61],[60,62],[60],[60,61],[62],[62,61]]:List ae).getD j.val []).length≤2:=by decide
   exact h ⟨i,hi⟩
  ·rw[List.getD_eq_getElem?_getD,List.getElem?_eq_none (by simp; omega)]
   simp
 exact this _
section
variable {s:ae} {ns:List ab} {L:Int}
def rI (s l l':ae) (ns:List ab):Option Int→Option ((Int×Unit)×(gj×Unit))
 | some k=>some ((k,()),((ba s,bd s ((bl l).drop (cY k).length),false,ns,()),()))
 | none=>some ((0,()),((ba s,bd s l',false,ns,()),()))
theorem Li {pre ys:List Int} {k:Int} (h:oi=pre++k :: ys):R0 oi (P9 (pre.length:Int)) 0=k:=by rw[h]; exact pQ
theorem Ab {k:Int} (h:k∈oi):1≤k∧k≤11:=by
 have : ∀ k∈oi,1≤k∧k≤11:=by decide
 exact this k h
theorem tM (hs:s.length≤1000) : ∀(ys pre:List Int) (l:ae),oi=pre++ys→l <:+ s → ∃ l',(l'=l∨l'=bl l)∧gL L (pre.length:Int) (ba s) (bd s l) false oi ns=rI s l l' ns (ys.find? (sf L (bl l)))
 | [],pre,l,h,hl=>by
  refine⟨l,.inl rfl,?_⟩
  rw[oO,aq (df h)]
  rfl
 | k :: ys,pre,l,h,hl=>by
  have hk:=Ab (k:=k) (by rw[h]; simp)
  rw[oO,av (bQ h),iI h,Li h,pw]
  simp only[M0,U2,S1]
  by_cases hL:cr k=L
  ·rw[M5 hL,iI h,rG (by omega) (by omega)]
   simp only[M0]
   have:=yN k
   rw[eI hs (by omega) hl]
   simp only[M0,O8,P4]
   cases hp:(cY k).isPrefixOf (bl l) with
   | true =>
    simp only[O4,sf,hL,Q6,P4,hp]
    rw[iI h]
    exact⟨l,.inl rfl,rfl⟩
   | false =>
    simp only[M8,O0,sf,hL,Q6,P4,hp]
    rw[aV h (by decide)]
    obtain⟨l',h1,h2⟩:=tM hs ys (pre++[k]) (bl l) (bh h) (ac (al l) hl)
    rw[cw] at h1 h2
    refine⟨l',.inr (by simpa using h1),?_⟩
    rw[h2]
    unfold rI
    rw[cw]
  ·rw[M2 hL,aV h (by decide)]
   obtain⟨l',h1,h2⟩:=tM hs ys (pre++[k]) l (bh h) hl
   refine⟨l',h1,?_⟩
   rw[h2]
   simp[sf,hL]
theorem CP (hs:s.length≤1000) : ∀(ys pre:List Int) (l:ae),oi=pre++ys→l <:+ s → ∃ l',(l'=l∨l'=bl l)∧lq L (pre.length:Int) (ba s) (bd s l) false ns oi=rI s l l' ns (ys.find? (sf L (bl l)))
 | [],pre,l,h,hl=>by
  refine⟨l,.inl rfl,?_⟩
  rw[ql,aq (df h)]
  rfl
 | k :: ys,pre,l,h,hl=>by
  have hk:=Ab (k:=k) (by rw[h]; simp)
  rw[ql,av (bQ h),iI h,Li h,pw]
  simp only[M0,U2,S1]
  by_cases hL:cr k=L
  ·rw[M5 hL,iI h,rG (by omega) (by omega)]
   simp only[M0]
   have:=yN k
   rw[eI hs (by omega) hl]
   simp only[M0,O8,P4]
   cases hp:(cY k).isPrefixOf (bl l) with
   | true =>
    simp only[O4,sf,hL,Q6,P4,hp]
    rw[iI h]
    exact⟨l,.inl rfl,rfl⟩
   | false =>
    simp only[M8,O0,sf,hL,Q6,P4,hp]
    rw[aV h (by decide)]
    obtain⟨l',h1,h2⟩:=tM (L:=L) (ns:=ns) hs ys (pre++[k]) (bl l) (bh h) (ac (al l) hl)
    rw[cw] at h1 h2
    refine⟨l',.inr (by simpa using h1),?_⟩
    rw[h2]
    unfold rI
    rw[cw]
  ·rw[M2 hL,aV h (by decide)]
   obtain⟨l',h1,h2⟩:=CP hs ys (pre++[k]) l (bh h) hl
   refine⟨l',h1,?_⟩
   rw[h2]
   simp[sf,hL]
end
theorem xN {α:Type} {p q:α→Bool} : ∀ {l:List α},(∀ x∈l,p x=q x)→l.find? p=l.find? q
 | [],_=>rfl
 | x :: l,h=>by
  rw[U2,U2,h x (by simp),xN (fun y hy=>h y (List.mem_cons_of_mem _ hy))]
def pS (k:Int) (y:UInt8) (a b:Bool):Bool:=if k=7 then decide (y=60) && a else if k=9 then decide (y=60) && b else if k=11 then decide (y=62) && b else if k=6 then decide (y=61) else if k=8 then decide (y=60) else if k=10 then decide (y=62) else if k=1 then decide (y=43) else if k=2 then decide (y=45) else if k=3 then decide (y=42) else if k=4 then decide (y=47) else decide (y=38)
theorem LL (y:UInt8) (t:ae) : ∀ k∈oi,(cY k).isPrefixOf (y :: t)=pS k y (decide (t.head? = some 62)) (decide (t.head? = some 61)):=by
 intro k hk
 have:k=7∨k=9∨k=11∨k=6∨k=8∨k=10∨k=1∨k=2∨k=3∨k=4∨k=5:=by simpa using hk
 rcases this with rfl | rfl | rfl | rfl | rfl | rfl | rfl | rfl | rfl | rfl | rfl
 ·exact wa y t 60 62
 ·exact wa y t 60 61
 ·exact wa y t 62 61
 ·exact dW y t 61
 ·exact dW y t 60
 ·exact dW y t 62
 ·exact dW y t 43
 ·exact dW y t 45
 ·exact dW y t 42
 ·exact dW y t 47
 ·exact dW y t 38
def fS (L:Int) (y:UInt8) (a b:Bool):Prop:=oi.find? (fun k=>decide (cr k=L) && pS k y a b)=if gO y a b≠0∧cr (gO y a b)=L then some (gO y a b) else none
instance (L:Int) (y:UInt8) (a b:Bool):Decidable (fS L y a b):=by unfold fS; infer_instance
theorem Lj (y:UInt8) : ∀ a b:Bool,fS 1 y a b∧fS 2 y a b∧fS 3 y a b∧fS 4 y a b :=
 wb (p:=fun y => ∀ a b:Bool,fS 1 y a b∧fS 2 y a b∧fS 3 y a b∧fS 4 y a b) (by decide +kernel) y
theorem Jt {L:Int} (hL:L=1∨L=2∨L=3∨L=4) (m:ae):oi.find? (sf L m)=if dC m≠0∧cr (dC m)=L then some (dC m) else none:=by
 cases m with
 | nil =>
  have : ∀ k∈oi,(cY k).isPrefixOf ([]:ae)=false:=by decide
  have h0:dC ([]:ae)=0:=rfl
  rw[h0,M2 (by simp),List.find?_eq_none]
  intro k hk
  unfold sf
  rw[this k hk,Bool.and_false]
  decide
 | cons y t =>
  have e:oi.find? (sf L (y :: t))=oi.find? (fun k=>decide (cr k=L) && pS k y (decide (t.head? = some 62)) (decide (t.head? = some 61))):=xN fun k hk=>by
   unfold sf
   rw[LL y t k hk]
  rw[e]
  obtain⟨h1,h2,h3,h4⟩:=Lj y (decide (t.head? = some 62)) (decide (t.head? = some 61))
  rcases hL with rfl | rfl | rfl | rfl
  ·exact h1
  ·exact h2
  ·exact h3
  ·exact h4
theorem Ll {s l:ae} {ns:List ab} {L:Int} (hs:s.length≤1000) (hL:L=1∨L=2∨L=3∨L=4) (h:l <:+ s) :
  ∃ l',(l'=l∨l'=bl l)∧vI L (ba s) (bd s l) false ns=rI s l l' ns (if dC (bl l)≠0∧cr (dC (bl l))=L then some (dC (bl l)) else none):=by
 rw[D1,←Jt hL]
 exact CP hs oi [] l rfl h
theorem ux {x:ab} {l:ae} {b:Bool} {ns:List ab} (hn:ns.length≤60) :
  ∃ i,aG x (ba l) b ns=some ((i,()),((ba l,(if b=false∧ns.length < 60 then ns++[x] else ns),(b || decide (60≤ns.length)),()),()))∧(b=false→ns.length < 60→i=(ns.length:Int)):=by
 rw[yx]
 cases b with
 | true=>exact⟨_,rfl,fun h=>by cases h⟩
 | false =>
  simp only[M8,O0,true_and,Bool.false_or]
  by_cases h:ns.length < 60
  ·have e1:decide ((ns.length:Int)≥60)=false:=O7 (by omega)
   have e2:decide (60≤ns.length)=false:=O7 (by omega)
   rw[e1,e2,M5 h]
   simp only[O8,O4]
   have hl:(ns++[x]).length=ns.length+1:=by simp
   rw[dv (by simp only[M3]; omega),wr (by omega) (by omega)]
   exact⟨_,rfl,fun _ _=>by omega⟩
  ·have e1:decide ((ns.length:Int)≥60)=true:=O6 (by omega)
   have e2:decide (60≤ns.length)=true:=O6 (by omega)
   rw[e1,e2,M2 h]
   exact⟨_,rfl,fun _ h'=>P1 h' h⟩
theorem yO {x:ab} {s:ae} {a:Int} {b:Bool} {ns:List ab} (hn:ns.length≤1000) (hx:x.2.2.1.2.2.1.size≤9223372036854775807) :
  bz x (ba s) a b ns=some (((ns.length:Int),()),((ba s,a,(b || decide (60≤ns.length) || !dw x),ns++[x],()),())):=by
 rw[Cr,dv (by simp only[M3]; omega)]
 have e:IntKind.i64.wrap (((ns++[x]).length:Int) - 1)=(ns.length:Int):=by
  rw[M6,M3,wr (by omega) (by omega)]
  omega
 rw[e,tD hx]
 simp only[M0]
 by_cases h:60≤ns.length
 ·rw[av (by rw[M6,M3]; omega)]
  simp[h]
 ·rw[aq (by rw[M6,M3]; omega)]
  cases dw x <;> simp[h]
end Go.Proofs.YtfffplonjaigkaaGreatDoor.Abs
