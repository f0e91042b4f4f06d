/- Plain laws: numbers that are typed. -/
import Derived.Test.YtddiiceaindlhaaGreatDoorZP3
set_option linter.unusedVariables false
set_option linter.unusedSimpArgs false
set_option linter.unusedSectionVars false
namespace Go.Proofs.YtddiiceaindlhaaGreatDoor.Abs
open Go
def ip (d:ae):Bool:=d.all cZ && decide (bn 0 d≤1000000000000000)
theorem PK {d:ae} (hne:d≠[]) (h:d.length=1∨d.head? ≠ some 48):iz d=d.all cZ:=by
 have hl:=List.length_pos_iff.2 hne
 unfold iz
 rw[decide_eq_true (show 1≤d.length by omega),Bool.and_true]
 rcases h with h | h
 ·rw[decide_eq_true h]; simp
 ·rw[decide_eq_false h]; simp
theorem PL {d:ae} (hne:d≠[]) (h:d.length=1∨d.head? ≠ some 48):(cu d 16 && decide (bn 0 d≤1000000000000000))=ip d:=by
 unfold cu ip
 rw[PK hne h]
 cases ha:d.all cZ with
 | false=>simp
 | true =>
  simp only[Bool.true_and]
  by_cases hv:bn 0 d≤1000000000000000
  ·have hd:=(L8 d (by rw[PK hne h]; exact ha)).1
   have:=Nz hv
   rw[hd] at this
   rw[decide_eq_true this]
   rfl
  ·rw[decide_eq_false hv,Bool.and_false]
theorem T4 {d:ae} (h:cu d 16=true):bn 0 d < 10000000000000000:=by
 unfold cu iz at h
 simp only[Bool.and_eq_true,decide_eq_true_eq] at h
 have:=Bm d 0 h.1.1.1
 have h2:10 ^ d.length≤10 ^ 16:=Nat.pow_le_pow_right (by decide) h.2
 omega
theorem Rh (n:Int):aN (vN n)=bF n (-1000000000000000) 1000000000000000:=by
 unfold aN vN
 simp
def p9 (b:Bool) (n:Nat):Int:=if b=true then -(n:Int) else n
theorem Kl {b:Bool} {n:Nat}:aN (vN (p9 b n))=decide (n≤1000000000000000):=by
 rw[Rh]
 unfold p9 bF
 rw[Bool.eq_iff_iff,decide_eq_true_eq,decide_eq_true_eq]
 cases b <;> simp <;> omega
theorem PM {d:ae} {b:Bool}:((cL (ba d) 16).bind fun z4=>(if b=true then(if z4.1.2.1=true then((gQ (1,(IntKind.i64.wrap (0 - z4.1.1)),(⟨#[]⟩:ByteArray),())).bind fun z5=>(some (((1,(IntKind.i64.wrap (0 - z4.1.1)),(⟨#[]⟩:ByteArray),()),z5.1.1,()),(())))) else(some (((1,(IntKind.i64.wrap (0 - z4.1.1)),(⟨#[]⟩:ByteArray),()),false,()),(())))) else(if z4.1.2.1=true then((gQ (1,z4.1.1,(⟨#[]⟩:ByteArray),())).bind fun z6=>(some (((1,z4.1.1,(⟨#[]⟩:ByteArray),()),z6.1.1,()),(())))) else(some (((1,z4.1.1,(⟨#[]⟩:ByteArray),()),false,()),(()))))))
  = (some ((vN (p9 b (if cu d 16=true then bn 0 d else 0)),(cu d 16 && decide (bn 0 d≤1000000000000000)),()),()):Option ((ay×Bool×Unit)×Unit)):=by
 have e:=Ag d (m:=16) (by decide)
 have e:cL (ba d) 16=_:=e
 rw[e]
 simp only[Option.bind_some]
 cases hr:cu d 16 with
 | false=>cases b <;> rfl
 | true =>
  have hlt:=T4 hr
  simp only[if_true,Bool.true_and]
  cases b with
  | true =>
   simp only[if_true]
   rw[wr (by omega) (by omega)]
   have ev:((1,0 - ((bn 0 d:Nat):Int),(⟨#[]⟩:ByteArray),()):ay)=vN (p9 true (bn 0 d)):=by
    unfold vN p9
    rw[if_pos rfl,show(0:Int) - ((bn 0 d:Nat):Int) = -((bn 0 d:Nat):Int) by omega]
   rw[ev,my (by show eS.size≤_; decide),Kl]
   rfl
  | false =>
   simp only[Bool.false_eq_true,if_false]
   have ev:((1,((bn 0 d:Nat):Int),(⟨#[]⟩:ByteArray),()):ay)=vN (p9 false (bn 0 d)):=rfl
   rw[ev,my (by show eS.size≤_; decide),Kl]
   rfl
theorem NM {b:Bool} : ∀(d:ae),d≠[]→d.length≤9223372036854775807 → ∃ v:ay,iX (ba d) b 0 0 (⟨#[]⟩:ByteArray)=some ((v,ip d,()),())∧(ip d=true→v=vN (p9 b (bn 0 d)))
 | [],h,_=>absurd rfl h
 | c :: l,h,hl=>by
  have aL:(c :: l:ae).length=1∨(c :: l:ae).head? ≠ some 48 → ∃ v:ay,(some ((vN (p9 b (if cu (c :: l) 16=true then bn 0 (c :: l) else 0)),(cu (c :: l) 16 && decide (bn 0 (c :: l)≤1000000000000000)),()),()):Option ((ay×Bool×Unit)×Unit))=some ((v,ip (c :: l),()),())∧(ip (c :: l)=true→v=vN (p9 b (bn 0 (c :: l)))):=by
   intro hc
   rw[PL h hc]
   refine⟨_,rfl,fun ho => ?_⟩
   rw[←PL h hc,Bool.and_eq_true] at ho
   rw[if_pos ho.1]
  rw[Eu,aq]
  by_cases h1:1 < (c :: l:ae).length
  ·rw[aD (by omega),o6,CZ c 48 (n:=48) rfl]
   by_cases h48:c=48
   ·subst h48
    rw[aD rfl,show(1:Int)=((1:Nat):Int) from rfl,fq (by simp)]
    simp only[List.drop_succ_cons,List.drop_zero]
    have hne:l≠[]:=by
     rintro rfl
     simp at h1
    have hll:l.length≤9223372036854775807:=by rw[List.length_cons] at hl; omega
    obtain⟨v,e1,e2⟩:=NM (b:=b) l hne hll
    have eo:ip (48 :: l)=ip l:=by
     unfold ip
     rfl
    rw[eo]
    exact⟨v,e1,e2⟩
   ·rw[av h48,PM]
    exact aL (.inr (by simpa using h48))
  ·rw[av (by omega),PM]
   exact aL (.inl (by simp only[List.length_cons] at h1 ⊢; omega))
end Go.Proofs.YtddiiceaindlhaaGreatDoor.Abs
set_option linter.unusedVariables false
set_option linter.unusedSimpArgs false
set_option linter.unusedSectionVars false
namespace Go.Proofs.YtddiiceaindlhaaGreatDoor.Abs
open Go
def Km (w:ae):Bool:=decide (w.head? = some 45)
def gY (w:ae):ae:=if w.head? = some 45 then w.drop 1 else w
def fC (w:ae):Bool:=decide (gY w≠[]) && ip (gY w)
def jB (w:ae):Int:=p9 (Km w) (bn 0 (gY w))
theorem Al {w:ae} (hw:w≠[]) (hl:w.length≤9223372036854775807) : ∃ v:ay,zH (ba w)=some ((v,fC w,()),())∧(fC w=true→v=vN (jB w)):=by
 cases w with
 | nil=>exact absurd rfl hw
 | cons c l =>
  rw[JE,aq,aD (by simp),o6,CZ c 45 (n:=45) rfl]
  by_cases hc:c=45
  ·subst hc
   have hm:gY (45 :: l)=l:=rfl
   have hg:Km (45 :: l)=true:=rfl
   have e0:(ByteArray.toList (ba l) == ByteArray.toList (⟨#[]⟩:ByteArray))=decide (l=[]):=cN (b:=[])
   rw[aD rfl,show(1:Int)=((1:Nat):Int) from rfl,fq (by simp)]
   simp only[List.drop_succ_cons,List.drop_zero]
   rw[e0]
   unfold fC jB
   rw[hm,hg]
   by_cases hn:l=[]
   ·rw[aD hn]
    subst hn
    exact⟨_,rfl,fun h=>by cases h⟩
   ·rw[av hn]
    obtain⟨v,e1,e2⟩:=NM (b:=true) l hn (by rw[List.length_cons] at hl; omega)
    refine⟨v,?_,fun h => ?_⟩
    ·simpa[hn] using e1
    ·rw[Bool.and_eq_true] at h
     exact e2 h.2
  ·have hm:gY (c :: l)=c :: l:=if_neg (by simpa using hc)
   have hg:Km (c :: l)=false:=decide_eq_false (by simpa using hc)
   have e0:(ByteArray.toList (ba (c :: l)) == ByteArray.toList (⟨#[]⟩:ByteArray))=decide (c :: l=[]):=cN (b:=[])
   rw[av hc,e0,av (by simp)]
   unfold fC jB
   rw[hm,hg]
   obtain⟨v,e1,e2⟩:=NM (b:=false) (c :: l) (by simp) hl
   refine⟨v,?_,fun h => ?_⟩
   ·simpa[hc] using e1
   ·rw[Bool.and_eq_true] at h
    exact e2 h.2
theorem Tv:(fun c=>([48,49,50,51,52,53,54,55,56,57]:ae).contains c)=cZ:=funext fun c=>o7 (p:=fun c=>([48,49,50,51,52,53,54,55,56,57]:ae).contains c=cZ c) (by decide +kernel) c
theorem EY {p:UInt8→Bool} : ∀ {l:ae} {x:UInt8} {t:ae},l.dropWhile p=x :: t→p x=false
 | c :: l,x,t,h=>by
  cases hc:p c with
  | true =>
   rw[List.dropWhile_cons_of_pos hc] at h
   exact EY h
  | false =>
   rw[List.dropWhile_cons_of_neg (by rw[hc]; decide)] at h
   cases h
   exact hc
theorem uW {p:UInt8→Bool} : ∀ {l:ae},l.dropWhile p=[]↔l.all p=true
 | []=>by simp
 | c :: l=>by
  cases hc:p c with
  | true=>rw[List.dropWhile_cons_of_pos hc,uW]; simp[hc]
  | false=>rw[List.dropWhile_cons_of_neg (by rw[hc]; decide)]; simp[hc]
theorem Ri (d:ae):(Lib.trimS d [48,49,50,51,52,53,54,55,56,57]=[])↔d.all cZ=true:=by
 unfold Lib.trimS Lib.trimLeftS Lib.trimRightS
 rw[Tv,uW]
 constructor
 ·intro h
  cases hr:d.reverse.dropWhile cZ with
  | nil =>
   rw[uW] at hr
   simpa using hr
  | cons x t =>
   have hx:=EY hr
   rw[hr] at h
   simp only[List.all_reverse,List.all_cons,Bool.and_eq_true] at h
   rw[hx] at h
   cases h.1
 ·intro h
  have:d.reverse.dropWhile cZ=[]:=uW.2 (by simpa using h)
  rw[this]
  rfl
theorem Kn {w:ae} (hl:w.length≤1000000):zJ (ba w)=some (((decide (gY w≠[]) && (gY w).all cZ),()),()):=by
 have hp:kR (ba w) (⟨#[45]⟩:ByteArray)=some ((ba (gY w),()),()):=by
  rw[wG,r9,show(⟨#[45]⟩:ByteArray)=ba [45] from rfl,vy _ _ (by omega)]
  simp only[Option.bind_some,CX]
  unfold gY
  by_cases h:w.head? = some 45
  ·obtain⟨t,rfl⟩:=gC h
   rw[aD h,if_pos h,aq,fq (by simp)]
   rfl
  ·rw[av h,if_neg h]
   rfl
 rw[JG,hp]
 simp only[Option.bind_some]
 have e0 : ∀ x:ae,(ByteArray.toList (ba x) == ByteArray.toList (⟨#[]⟩:ByteArray))=decide (x=[]):=fun x=>cN (b:=[])
 have hm:(gY w).length≤w.length:=by
  unfold gY
  split <;> simp
 rw[e0]
 by_cases hn:gY w=[]
 ·simp[hn]
 ·have ht:td (ba (gY w)) (⟨#[48,49,50,51,52,53,54,55,56,57]⟩:ByteArray)=some ((ba (Lib.trimS (gY w) [48,49,50,51,52,53,54,55,56,57]),()),()):=by
   rw[Ep]
   show(if sS (ba [48,49,50,51,52,53,54,55,56,57])=true∧(ba (gY w)).size≤9223372036854775807 then some (((⟨(Lib.trimS (lb (ba (gY w))) (lb (ba [48,49,50,51,52,53,54,55,56,57]))).toArray⟩:ByteArray),()),()) else none)=_
   rw[if_pos ⟨by decide +kernel,by rw[aq]; omega⟩,dk,dk]
  rw[ht]
  simp only[Option.bind_some,hn,decide_false,Bool.not_false,if_true,e0,ne_eq,not_false_eq_true,decide_true,Bool.true_and]
  congr 3
  rw[Bool.eq_iff_iff,decide_eq_true_eq]
  exact Ri _
theorem Ko : ∀(l:ae) (a u:Nat),l.all cZ=true→Lib.parseUintM 18446744073709551615 a l = .ok u→u=bn a l
 | [],a,u,_,h=>by
  cases h
  rfl
 | c :: l,a,u,h,hp=>by
  simp only[List.all_cons,Bool.and_eq_true] at h
  have hd:48≤c.toNat∧c.toNat≤57:=by simpa[cZ] using h.1
  unfold Lib.parseUintM at hp
  rw[if_pos hd] at hp
  split at hp
  ·cases hp
  ·split at hp
   ·cases hp
   ·exact Ko l _ u h.2 hp
theorem Hv {w:ae} (hne:gY w≠[]) (hd:(gY w).all cZ=true) (h:(b9 w).2=true):(b9 w).1=jB w:=by
 unfold b9 at h ⊢
 cases hp:Lib.parseIntB 64 w with
 | range=>rw[hp] at h; cases h
 | ok v =>
  simp only
  cases w with
  | nil=>exact absurd rfl hne
  | cons c l =>
   unfold Lib.parseIntB at hp
   simp only at hp
   unfold jB
   by_cases hc:c=45
   ·subst hc
    have hm:gY (45 :: l)=l:=rfl
    have hg:Km (45 :: l)=true:=rfl
    rw[hm] at hne hd
    have h45:(45:UInt8).toNat=45:=rfl
    rw[if_pos (.inr h45)] at hp
    unfold Lib.parseUintB at hp
    rw[if_neg hne] at hp
    cases hu:Lib.parseUintM (2 ^ 64 - 1) 0 l with
    | range=>rw[hu] at hp; cases hp
    | ok u =>
     rw[hu] at hp
     have:=Ko l 0 u hd hu
     simp only at hp
     split at hp
     ·cases hp
     ·split at hp
      ·cases hp
      ·cases hp
       rw[hm,hg,this]
       rfl
    | _=>rw[hu] at hp; cases hp
   ·have hm:gY (c :: l)=c :: l:=if_neg (by simpa using hc)
    have hg:Km (c :: l)=false:=decide_eq_false (by simpa using hc)
    rw[hm] at hd
    have hcd:48≤c.toNat∧c.toNat≤57:=by
     simp only[List.all_cons,Bool.and_eq_true] at hd
     simpa[cZ] using hd.1
    rw[if_neg (by omega)] at hp
    unfold Lib.parseUintB at hp
    rw[if_neg (by simp)] at hp
    cases hu:Lib.parseUintM (2 ^ 64 - 1) 0 (c :: l) with
    | range=>rw[hu] at hp; cases hp
    | ok u =>
     rw[hu] at hp
     have:=Ko (c :: l) 0 u hd hu
     simp only at hp
     split at hp
     ·cases hp
     ·split at hp
      ·cases hp
      ·rw[if_neg (by omega)] at hp
       cases hp
       rw[hm,hg,this]
       rfl
    | _=>rw[hu] at hp; cases hp
 | _=>rw[hp] at h; cases h
end Go.Proofs.YtddiiceaindlhaaGreatDoor.Abs
set_option linter.unusedVariables false
set_option linter.unusedSimpArgs false
set_option linter.unusedSectionVars false
namespace Go.Proofs.YtddiiceaindlhaaGreatDoor.Abs
open Go
theorem Lt {w:ae} (h:fC w=true):b9 w=(jB w,true):=by
 unfold fC ip at h
 simp only[Bool.and_eq_true,decide_eq_true_eq] at h
 obtain⟨hne,hd,hv⟩:=h
 have hp2:(b9 w).2=true:=by
  cases w with
  | nil=>exact absurd rfl hne
  | cons c l =>
   by_cases hc:c=45
   ·subst hc
    have hm:gY (45 :: l)=l:=rfl
    rw[hm] at hne hd hv
    have h45:(45:UInt8).toNat=45:=rfl
    have hu:Lib.parseUintM (2 ^ 64 - 1) 0 l = .ok (bn 0 l):=Ip l 0 hd (by omega)
    have:Lib.parseIntB 64 (45 :: l) = .ok (-((bn 0 l:Nat):Int)):=by
     unfold Lib.parseIntB
     simp only
     rw[if_pos (.inr h45)]
     unfold Lib.parseUintB
     rw[if_neg hne,hu]
     simp only
     rw[if_neg (by omega),if_neg (by omega)]
     rfl
    unfold b9
    rw[this]
   ·have hm:gY (c :: l)=c :: l:=if_neg (by simpa using hc)
    rw[hm] at hd hv
    have hcd:48≤c.toNat∧c.toNat≤57:=by
     have hd':=hd
     simp only[List.all_cons,Bool.and_eq_true] at hd'
     simpa[cZ] using hd'.1
    have hu:Lib.parseUintM (2 ^ 64 - 1) 0 (c :: l) = .ok (bn 0 (c :: l)):=Ip (c :: l) 0 hd (by omega)
    have:Lib.parseIntB 64 (c :: l) = .ok ((bn 0 (c :: l):Nat):Int):=by
     unfold Lib.parseIntB
     simp only
     rw[if_neg (by omega)]
     unfold Lib.parseUintB
     rw[if_neg (by simp),hu]
     simp only
     rw[if_neg (by omega),if_neg (by omega),if_neg (by omega)]
    unfold b9
    rw[this]
 exact Prod.ext (Hv hne hd hp2) hp2
theorem Tw {w:ae} (h:fC w=false) (h1:(b9 w).2=true) (h2:(decide (gY w≠[]) && (gY w).all cZ)=true):aN (vN (b9 w).1)=false:=by
 simp only[Bool.and_eq_true,decide_eq_true_eq] at h2
 rw[Hv h2.1 h2.2 h1]
 unfold jB
 rw[Kl]
 unfold fC ip at h
 rw[decide_eq_true h2.1,h2.2] at h
 simpa using h
theorem yo {w:ae} (h:fC w=true) : -1000000000000000≤jB w∧jB w≤1000000000000000:=by
 unfold fC ip at h
 simp only[Bool.and_eq_true,decide_eq_true_eq] at h
 unfold jB p9
 split <;> omega
theorem yp {x:ByteArray} (hx:x.size≤9223372036854775807) : ∃(t:ae) (b:Bool),tf x=some ((ba t,b,()),())∧pM x=some ((ba t,b,()),())∧t.length≤200:=by
 obtain⟨w,rfl⟩ : ∃ s,x=ba s:=⟨lb x,(fX x).symm⟩
 rw[Lb,Cc,qx hx,sd hx]
 simp only[Option.bind_some]
 have e0 : ∀ x:ae,(ByteArray.toList (ba x) == ByteArray.toList (⟨#[]⟩:ByteArray))=decide (x=[]):=fun x=>cN (b:=[])
 rw[e0]
 cases hp:(plain (ba w) && decide (((ba w).size:Int)≤200)) with
 | false =>
  have hw:w≠[]:=by
   rintro rfl
   exact absurd hp (by decide)
  rw[decide_eq_false hw]
  exact⟨[],false,rfl,rfl,by simp⟩
 | true =>
  have hp':=hp
  rw[Bool.and_eq_true,decide_eq_true_eq,aq] at hp'
  have hl:w.length≤200:=by omega
  simp only[Bool.not_true,Bool.false_eq_true,if_false]
  by_cases hw:w=[]
  ·subst hw
   exact⟨[],true,rfl,rfl,by simp⟩
  ·rw[av hw,av hw]
   have hcut:ch (ba w) (⟨#[61]⟩:ByteArray)=_:=q9 w [61] (by omega)
   rw[hcut]
   simp only[Option.bind_some,CX]
   cases w with
   | nil=>exact absurd rfl hw
   | cons c l =>
    rw[o6,CZ c 61 (n:=61) rfl]
    by_cases hc:c=61
    ·subst hc
     have hll:l.length≤200:=by rw[List.length_cons] at hl; omega
     simp only[List.head?_cons,decide_true,if_true,List.length_singleton,List.drop_succ_cons,List.drop_zero]
     rw[show(1:Int)=((1:Nat):Int) from rfl,fq (by simp)]
     simp only[List.drop_succ_cons,List.drop_zero]
     obtain⟨f,b,r1,r2,r3,r4⟩:=Iq (x:=ba l) (by rw[aq]; omega)
     rw[r1,r2]
     simp only[Option.bind_some]
     have hsm:f.length≤10000000∧(∀ x∈f,x.2.2.1.2.2.1.size≤9223372036854775807) ∧ ∀ x∈f,x.2.2.2.2.2.1.length≤10000000:=by
      cases b with
      | false=>rw[r4 rfl]; simp
      | true =>
       have ho:=r3 rfl
       have hs:dl f=true:=by
        unfold dl
        rw[List.all_eq_true]
        intro y hy
        obtain⟨i,hi⟩:=List.getElem?_of_mem hy
        exact(lV ho i y hi).1
       have ho':=ho
       unfold fh at ho'
       rw[Bool.and_eq_true] at ho'
       have:=bc.1 ho'.1
       exact⟨by omega,F9 (tP hs),Ga (tP hs)⟩
     obtain⟨t,t1,t2,t3⟩:=Gd hsm.1 hsm.2.1 hsm.2.2
     rw[t2,zQ,t1]
     simp only[Option.bind_some]
     rw[show(⟨#[61]⟩:ByteArray)=ba [61] from rfl,bk (by simp only[List.length_singleton]; omega),e0,aq]
     cases b with
     | false =>
      simp only[Bool.not_false,if_true]
      refine⟨[],false,?_,rfl,by simp⟩
      by_cases ht:t=[] <;> simp[ht]
     | true =>
      simp only[Bool.not_true,Bool.false_eq_true,if_false]
      by_cases ht:t=[]
      ·refine⟨[],false,?_,?_,by simp⟩ <;> simp[ht]
      ·rw[wr (by omega) (by omega)]
       by_cases h2:t.length < 200
       ·refine⟨61 :: t,true,?_,?_,by rw[List.length_cons]; omega⟩
        ·rw[decide_eq_false ht,decide_eq_true (show(t.length:Int) < 200 by omega)]
         rfl
        ·rw[av ht,av (by omega),bk (by simp only[List.length_singleton]; omega)]
         rfl
       ·refine⟨[],false,?_,?_,by simp⟩
        ·rw[decide_eq_false ht,decide_eq_false (show ¬(t.length:Int) < 200 by omega)]
         rfl
        ·rw[av ht,aD (by omega)]
    ·have hnc : ¬(some c=some (61:UInt8)):=by simpa using hc
     simp only[List.head?_cons,hnc,decide_false,Bool.false_eq_true,if_false,hc]
     generalize hwd:(c :: l:ae)=w at *
     have hsz:(ba w).size=w.length:=aq w
     rw[vA (by omega)]
     obtain⟨v,n1,n2⟩:=Al hw (by omega)
     rw[n1,Kn (by omega),rp (by omega),rn (by omega)]
     simp only[Option.bind_some,Ew]
     rw[vw (by show eS.size≤_; decide)]
     simp only[Option.bind_some]
     have tail : ∃(t:ae) (b:Bool),(if(bq w).2=true then(some ((ba w,true,()),(())):Option ((ByteArray×Bool×Unit)×Unit)) else(if((ByteArray.size (ba w):Int) == 200)=true then(some (((⟨#[]⟩:ByteArray),false,()),(()))) else(cats (⟨#[39]⟩:ByteArray) (ba w) fun y2=>(some ((y2,true,()),(()))))))=some ((ba t,b,()),())
       ∧ (if(!(bq w).2)=true then((ij (2,0,ba w,())).bind fun z7=>(if(decide ((ByteArray.size z7.1.1:Int) > 200))=true then(some (((⟨#[]⟩:ByteArray),false,()),(()))) else(some ((z7.1.1,true,()),(()))))) else((ij (bq w).1).bind fun z8=>(if(decide ((ByteArray.size z8.1.1:Int) > 200))=true then(some (((⟨#[]⟩:ByteArray),false,()),(()))) else(some ((z8.1.1,true,()),(()))))))=some ((ba t,b,()),())∧t.length≤200:=by
      cases hr:(bq w).2 with
      | true =>
       obtain⟨k1,k2⟩:=pY hr
       refine⟨w,true,rfl,?_,hl⟩
       simp only[Bool.not_true,Bool.false_eq_true,if_false]
       rw[gf (je k1),if_pos k1,k2]
       simp only[Option.bind_some]
       rw[av (by rw[hsz]; omega)]
      | false =>
       simp only[Bool.not_false,Bool.false_eq_true,if_false,if_true]
       have hov:aN (2,0,ba w,())=true:=by
        unfold aN
        rw[if_pos rfl]
        simp only[decide_true,Bool.true_and]
        exact hp
       have htx:cE (2,0,ba w,())=ba (39 :: w):=by
        show(⟨#[39]⟩:ByteArray)++ba w=_
        rw[show(⟨#[39]⟩:ByteArray)=ba [39] from rfl,mz]
        rfl
       rw[gf (je hov),if_pos hov,htx,Nu (by omega),show(⟨#[39]⟩:ByteArray)=ba [39] from rfl,mz]
       simp only[Option.bind_some,aq,List.length_cons]
       by_cases h2:w.length=200
       ·rw[if_pos (by simp[h2]),aD (by omega)]
        exact⟨[],false,rfl,rfl,by simp⟩
       ·rw[if_neg (by simp only[beq_iff_eq]; omega),av (by omega)]
        exact⟨39 :: w,true,rfl,rfl,by rw[List.length_cons]; omega⟩
     cases ho:fC w with
     | true =>
      have hpv:=Lt ho
      have hrg:=yo ho
      have hdg:(decide (gY w≠[]) && (gY w).all cZ)=true:=by
       unfold fC ip at ho
       simp only[Bool.and_eq_true] at ho ⊢
       exact⟨ho.1,ho.2.1⟩
      have hok:aN (vN (jB w))=true:=by
       rw[Rh]
       exact bc.2 hrg
      have hit:=sf (n:=jB w) (by omega) (by omega)
      rw[n2 ho,hpv,hdg]
      simp only[if_true,hok]
      rw[vx (by omega) (by omega),gf (je hok),if_pos hok]
      refine⟨lb (de (jB w)),true,?_,?_,by rw[pU]; omega⟩
      ·rw[fX]; rfl
      ·rw[fX]; rfl
     | false =>
      obtain⟨t,b,s1,s2,s3⟩:=tail
      refine⟨t,b,?_,?_,s3⟩
      ·cases h1:(b9 w).2 with
       | false=>simpa using s1
       | true =>
        cases h2:(decide (gY w≠[]) && (gY w).all cZ) with
        | false=>simpa using s1
        | true =>
         rw[Tw ho h1 h2]
         simpa using s1
      ·simpa using s2
end Go.Proofs.YtddiiceaindlhaaGreatDoor.Abs
set_option linter.unusedVariables false
set_option linter.unusedSimpArgs false
set_option linter.unusedSectionVars false
namespace Go.Proofs.YtddiiceaindlhaaGreatDoor.Abs
open Go
noncomputable def eX (x:ByteArray):ByteArray×Bool:=if h:x.size≤9223372036854775807 then(ba (yp h).choose,(yp h).choose_spec.choose) else(eS,false)
theorem tQ {x:ByteArray} (h:x.size≤9223372036854775807):tf x=some (((eX x).1,(eX x).2,()),())∧pM x=some (((eX x).1,(eX x).2,()),())∧(eX x).1.size≤200:=by
 have hs:=(yp h).choose_spec.choose_spec
 unfold eX
 rw[dif_pos h]
 exact⟨hs.1,hs.2.1,by rw[aq]; exact hs.2.2⟩
noncomputable def eY (x:ByteArray):Bool:=(eX x).2 && !decide (x=eS) && decide ((eX x).1=x)
theorem Am {x:ByteArray} (h:x.size≤9223372036854775807):ux x=some ((eY x,()),()):=by
 rw[JH,(tQ h).1]
 simp only[Option.bind_some,jE]
 unfold eY
 cases (eX x).2 <;> by_cases hx:x=eS <;> simp[hx]
def aR (a b:ai):Bool:=decide (a.2.1 < b.2.1) || (decide (a.2.1=b.2.1) && decide (a.1 < b.1))
theorem vF (a b:ai):iw a b=some ((aR a b,()),()):=by
 rw[K2]
 unfold aR
 by_cases h1:a.2.1 < b.2.1
 ·simp[h1]
 ·by_cases h2:a.2.1=b.2.1 <;> simp[h1,h2]
theorem EZ (a b:ai) : ∃ k:Int,s9 a b=some ((k,()),())∧(k < 0↔aR a b=true):=by
 rw[Eh,Hf,Hf]
 simp only[Option.bind_some]
 rw[QZ (by simp)]
 refine⟨_,rfl,?_⟩
 unfold aR
 by_cases h1:a.2.1 < b.2.1
 ·simp[CV,h1]
 ·by_cases h2:b.2.1 < a.2.1
  ·have h3 : ¬a.2.1=b.2.1:=by omega
   simp[CV,h1,h2,h3]
  ·have h3:a.2.1=b.2.1:=by omega
   by_cases h4:a.1 < b.1
   ·simp[CV,h1,h2,h3,h4]
   ·by_cases h5:b.1 < a.1
    ·simp[CV,h1,h2,h3,h4,h5]
    ·simp[CV,h1,h2,h3,h4,h5]
noncomputable def An:Option ab→List ab→Bool
 | _,[]=>true
 | o,c :: l=>ar c.1 && eY c.2.1 && (match o with | none=>true | some p=>aR p.1 c.1) && An (some c) l
noncomputable def aY (s:List ab):Bool:=An none s && decide (s.length≤120)
section
variable {s:List ab} (hs : ∀ c∈s,c.2.1.size≤9223372036854775807) (hl:s.length≤1000000000)
include hs hl
theorem yU : ∀(ys pre:List ab),s=pre++ys→mv s s (s.length:Int) (pre.length:Int)=some ((An pre.getLast? ys && decide (s.length≤120),()),())
 | [],pre,h=>by
  rw[wQ,av (bO h)]
  simp only[An,Bool.true_and]
  congr 3
  rw[Bool.eq_iff_iff,decide_eq_true_eq,decide_eq_true_eq]
  omega
 | y :: ys,pre,h=>by
  have hy:=hs y (by rw[h]; simp)
  have ih:=yU ys (pre++[y]) (aK h)
  rw[List.getLast?_append] at ih
  simp only[List.getLast?_singleton,Option.or_some,Option.some_or] at ih
  rw[wQ,aD (bP h),bv h,nE]
  simp only[Option.bind_some,An]
  cases hr:ar y.1 with
  | false=>simp
  | true =>
   simp only[Bool.not_true,Bool.false_eq_true,if_false,Bool.true_and]
   rcases List.eq_nil_or_concat pre with hp | ⟨q,z,hp⟩
   ·subst hp
    rw[av (by simp),Am hy]
    simp only[Option.bind_some,List.getLast?_nil,Bool.and_true]
    cases eY y.2.1 with
    | false=>simp
    | true =>
     simp only[Bool.not_true,Bool.false_eq_true,if_false,Bool.true_and]
     rw[aX (pre:=[]) h (by omega)]
     exact ih
   ·rw[List.concat_eq_append] at hp
    subst hp
    have hz:s=q++z :: (y :: ys):=by rw[h]; simp
    have hql:((q++[z]).length:Int) - 1=(q.length:Int):=by simp
    have hqs:q.length < s.length:=by rw[hz]; simp
    rw[aD (by simp),hql,wr (by omega) (by omega),bv hz]
    obtain⟨k,k1,k2⟩:=EZ z.1 y.1
    rw[k1]
    simp only[Option.bind_some,List.getLast?_append,List.getLast?_singleton,Option.some_or]
    by_cases hk:k < 0
    ·rw[av (by omega),Am hy,k2.1 hk]
     simp only[Option.bind_some,Bool.and_true]
     cases eY y.2.1 with
     | false=>simp
     | true =>
      simp only[Bool.not_true,Bool.false_eq_true,if_false,Bool.true_and]
      rw[aX h (by omega)]
      exact ih
    ·have:aR z.1 y.1=false:=by
      rw[Bool.eq_false_iff]
      exact fun e=>hk (k2.2 e)
     rw[aD (by omega),this]
     simp
theorem vG:tg s=some ((aY s,()),()):=by
 rw[Lc]
 exact yU hs hl s [] rfl
end
end Go.Proofs.YtddiiceaindlhaaGreatDoor.Abs
set_option linter.unusedVariables false
set_option linter.unusedSimpArgs false
set_option linter.unusedSectionVars false
namespace Go.Proofs.YtddiiceaindlhaaGreatDoor.Abs
open Go
theorem NN {x:ByteArray}:eY x=((eX x).2 && !decide (x=eS) && decide ((eX x).1=x)):=rfl
section
variable {s:List ab} (hs : ∀ c∈s,c.2.1.size≤9223372036854775807) (hl:s.length≤1000000000000)
include hs hl
theorem yV : ∀(ys pre:List ab),s=pre++ys→mu s (pre.length:Int)=some ((An pre.getLast? ys,()),())
 | [],pre,h=>by
  rw[wO,av (bO h)]
  simp only[An]
 | y :: ys,pre,h=>by
  have hy:=hs y (by rw[h]; simp)
  have ih:=yV ys (pre++[y]) (aK h)
  rw[List.getLast?_append] at ih
  simp only[List.getLast?_singleton,Option.or_some,Option.some_or] at ih
  rw[wO,aD (bP h),bv h,(tQ hy).2.1]
  simp only[Option.bind_some]
  rw[bv h,gB]
  simp only[Option.bind_some,An,bv h,jE,NN]
  cases hr:ar y.1 with
  | false=>simp
  | true =>
   cases hi:(eX y.2.1).2 with
   | false=>simp
   | true =>
    by_cases he:y.2.1=eS
    ·simp[he]
    ·by_cases hq:(eX y.2.1).1=y.2.1
     ·rcases List.eq_nil_or_concat pre with hp | ⟨q,z,hp⟩
      ·subst hp
       rw[aX (pre:=[]) h (by omega)]
       simp[he,hq]
       exact ih
      ·rw[List.concat_eq_append] at hp
       subst hp
       have hz:s=q++z :: (y :: ys):=by rw[h]; simp
       have hql:((q++[z]).length:Int) - 1=(q.length:Int):=by simp
       have hqs:q.length < s.length:=by rw[hz]; simp
       rw[hql,wr (by omega) (by omega),bv hz,vF,aX h (by omega)]
       simp only[Option.bind_some,List.getLast?_append,List.getLast?_singleton,Option.some_or]
       rw[ih]
       cases ha:aR z.1 y.1 <;> simp[he,hq]
     ·simp[he,hq]
theorem mB:m9 s=some ((aY s,()),()):=by
 rw[K3]
 by_cases h:s.length≤120
 ·rw[av (by simp; omega)]
  have:=yV hs hl s [] rfl
  simp only[List.length_nil,Int.ofNat_zero,List.getLast?_nil] at this
  rw[this]
  simp[aY,h]
 ·rw[aD (by simp; omega)]
  simp[aY,h]
end
end Go.Proofs.YtddiiceaindlhaaGreatDoor.Abs
set_option linter.unusedVariables false
set_option linter.unusedSimpArgs false
set_option linter.unusedSectionVars false
namespace Go.Proofs.YtddiiceaindlhaaGreatDoor.Abs
open Go
theorem pc {a b:ai}:(bB an a b=true)=(a=b):=propext (sB rfl)
noncomputable def dn (r:ai):List ab→ByteArray
 | []=>eS
 | c :: cs=>if c.1=r then c.2.1 else dn r cs
theorem xc {s:List ab} {r:ai} (hl:s.length≤1000000000000) : ∀(ys pre:List ab),s=pre++ys→oU s (s.length:Int) (pre.length:Int) r.1 r.2.1=some ((dn r ys,()),())
 | [],pre,h=>by
  rw[uM,av (bO h)]
  rfl
 | y :: ys,pre,h=>by
  have ih:=xc (r:=r) hl ys (pre++[y]) (aK h)
  rw[uM,aD (bP h),bv h,aX h (by omega),ih]
  show(if bB an y.1 r=true then _ else _)=_
  by_cases e:y.1=r
  ·rw[if_pos (by rw[pc]; exact e),dn,if_pos e]
  ·rw[if_neg (by rw[pc]; exact e),dn,if_neg e]
theorem Ao {s:List ab} {r:ai} (hl:s.length≤1000000000000):uB s r=some ((dn r s,()),()):=by
 rw[JO]
 exact xc hl s [] rfl
end Go.Proofs.YtddiiceaindlhaaGreatDoor.Abs
set_option linter.unusedVariables false
set_option linter.unusedSimpArgs false
set_option linter.unusedSectionVars false
namespace Go.Proofs.YtddiiceaindlhaaGreatDoor.Abs
open Go
theorem Kp {α:Type} {lt:α→α→Bool} (hi : ∀ x,lt x x=false) (ht : ∀ x y z,lt x y=true→lt y z=true→lt x z=true) : ∀ {l m:List α},(l.Pairwise fun a b=>lt a b=true)→(m.Pairwise fun a b=>lt a b=true)→(∀ x,x∈l↔x∈m)→l=m
 | [],[],_,_,_=>rfl
 | [],y :: m,_,_,h=>by have:=(h y).2 (by simp); cases this
 | x :: l,[],_,_,h=>by have:=(h x).1 (by simp); cases this
 | x :: l,y :: m,hl,hm,h=>by
  rw[List.pairwise_cons] at hl hm
  have hxy:x=y:=by
   rcases List.mem_cons.1 ((h x).1 (by simp)) with e | hx
   ·exact e
   ·rcases List.mem_cons.1 ((h y).2 (by simp)) with e | hy
    ·exact e.symm
    ·have:=ht _ _ _ (hl.1 y hy) (hm.1 x hx)
     rw[hi] at this
     cases this
  subst hxy
  congr 1
  refine Kp hi ht hl.2 hm.2 fun z=>⟨fun hz => ?_,fun hz => ?_⟩
  ·rcases List.mem_cons.1 ((h z).1 (List.mem_cons_of_mem _ hz)) with e | hz'
   ·subst e
    have:=hl.1 z hz
    rw[hi] at this
    cases this
   ·exact hz'
  ·rcases List.mem_cons.1 ((h z).2 (List.mem_cons_of_mem _ hz)) with e | hz'
   ·subst e
    have:=hm.1 z hz
    rw[hi] at this
    cases this
   ·exact hz'
theorem jf {a b:ai}:aR a b=true↔a.2.1 < b.2.1∨(a.2.1=b.2.1∧a.1 < b.1):=by
 unfold aR
 simp
theorem lh (a:ai):aR a a=false:=by
 rw[Bool.eq_false_iff]
 intro h
 have:=jf.1 h
 omega
theorem eP {a b c:ai} (h:aR a b=true) (k:aR b c=true):aR a c=true:=by
 have:=jf.1 h
 have:=jf.1 k
 rw[jf]
 omega
theorem Sz {a b:ai} (h1:a.1=b.1) (h2:a.2.1=b.2.1):a=b:=Prod.ext h1 (Prod.ext h2 rfl)
theorem mC (a b:ai):aR a b=true∨a=b∨aR b a=true:=by
 rw[jf,jf]
 by_cases h:a=b
 ·exact .inr (.inl h)
 ·by_cases h2:a.2.1=b.2.1
  ·have:a.1≠b.1:=fun e=>h (Sz e h2)
   omega
  ·omega
theorem C5 {a b:ai} (h:aR a b=true):a≠b:=by
 rintro rfl
 rw[lh] at h
 cases h
def eZ (s:List ab):Prop:=s.Pairwise fun a b=>aR a.1 b.1=true
theorem Mh : ∀ {s:List ab} {o:Option ab},An o s=true↔(∀ p,o=some p → ∀ c∈s,aR p.1 c.1=true)∧eZ s ∧ ∀ c∈s,ar c.1=true∧eY c.2.1=true
 | [],o=>by simp[An,eZ]
 | c :: l,o=>by
  have ih:=Mh (s:=l) (o:=some c)
  simp only[An,Bool.and_eq_true,ih]
  constructor
  ·rintro⟨⟨⟨h1,h2⟩,h3⟩,h4,h5,h6⟩
   refine⟨?_,List.pairwise_cons.2 ⟨fun d hd=>h4 c rfl d hd,h5⟩,?_⟩
   ·rintro p rfl d hd
    have h3:aR p.1 c.1=true:=h3
    rcases List.mem_cons.1 hd with rfl | hd
    ·exact h3
    ·exact eP h3 (h4 c rfl d hd)
   ·intro d hd
    rcases List.mem_cons.1 hd with rfl | hd
    ·exact⟨h1,h2⟩
    ·exact h6 d hd
  ·rintro⟨h1,h2,h3⟩
   have h2:=List.pairwise_cons.1 h2
   refine⟨⟨h3 c (by simp),?_⟩,?_,h2.2,fun d hd=>h3 d (List.mem_cons_of_mem _ hd)⟩
   ·cases o with
    | none=>rfl
    | some p=>exact h1 p rfl c (by simp)
   ·rintro p hp d hd
    cases hp
    exact h2.1 d hd
theorem dG {s:List ab}:aY s=true↔eZ s∧(∀ c∈s,ar c.1=true∧eY c.2.1=true)∧s.length≤120:=by
 unfold aY
 rw[Bool.and_eq_true,Mh,decide_eq_true_eq]
 constructor
 ·rintro⟨⟨_,h1,h2⟩,h3⟩
  exact⟨h1,h2,h3⟩
 ·rintro⟨h1,h2,h3⟩
  exact⟨⟨(fun p hp=>by cases hp),h1,h2⟩,h3⟩
theorem Hw {x:ByteArray}:eY x=true↔(eX x).2=true∧x≠eS∧(eX x).1=x:=by
 unfold eY
 simp[Bool.and_eq_true,and_assoc]
theorem Kq {x:ByteArray} (h:eY x=true):x≠eS:=(Hw.1 h).2.1
theorem PN (x:ByteArray):(eX x).1.size≤200:=by
 by_cases h:x.size≤9223372036854775807
 ·exact(tQ h).2.2
 ·unfold eX
  rw[dif_neg h]
  decide
theorem NO {x:ByteArray} (h:eY x=true):x.size≤200:=by
 have:=PN x
 rw[(Hw.1 h).2.2] at this
 exact this
def g7 (r:ai) (s:List ab):List ab:=s.filter fun c => !decide (c.1=r)
def qa (r:ai) (x:ByteArray):List ab→List ab
 | []=>[(r,x,())]
 | c :: l=>if aR c.1 r=true then c :: qa r x l else(r,x,()) :: g7 r (c :: l)
noncomputable def fi (s:List ab) (r:ai) (x:ByteArray):List ab:=if x=eS then g7 r s else qa r x s
theorem Ge {r:ai} {s:List ab} {c:ab}:c∈g7 r s↔c∈s∧c.1≠r:=by simp[g7]
theorem Mi {r:ai} {s:List ab} (h:eZ s):eZ (g7 r s):=List.Pairwise.filter _ h
theorem Gf (r:ai) (s:List ab):(g7 r s).length≤s.length:=List.length_filter_le _ _
theorem PO {r:ai} {s:List ab} (h : ∀ c∈s,c.1≠r):g7 r s=s:=by
 unfold g7
 rw[List.filter_eq_self]
 intro c hc
 simp[h c hc]
theorem vH {r:ai} {c:ab} {l:List ab} (h:c.1≠r):g7 r (c :: l)=c :: g7 r l:=by simp[g7,h]
theorem Co {r:ai} {c:ab} {l:List ab} (h:c.1=r):g7 r (c :: l)=g7 r l:=by simp[g7,h]
theorem tR {r:ai} {x:ByteArray} : ∀ s:List ab,(qa r x s).Perm (g7 r s++[(r,x,())])
 | []=>by simp[qa,g7]
 | c :: l=>by
  unfold qa
  by_cases h:aR c.1 r=true
  ·rw[if_pos h,vH (C5 h)]
   exact(tR l).cons c
  ·rw[if_neg h]
   exact(List.perm_append_singleton _ _).symm
theorem Mj {r:ai} {x:ByteArray} {s:List ab} {c:ab}:c∈qa r x s↔(c∈s∧c.1≠r)∨c=(r,x,()):=by
 rw[(tR s).mem_iff,List.mem_append,Ge,List.mem_singleton]
theorem SA (r:ai) (x:ByteArray) (s:List ab):(qa r x s).length≤s.length+1:=by
 rw[(tR s).length_eq,List.length_append,List.length_singleton]
 have:=Gf r s
 omega
theorem Gg {r:ai} {x:ByteArray} : ∀ {s:List ab},eZ s→eZ (qa r x s)
 | [],_=>by simp[qa,eZ]
 | c :: l,h=>by
  have h':=List.pairwise_cons.1 h
  unfold qa
  by_cases k:aR c.1 r=true
  ·rw[if_pos k]
   refine List.pairwise_cons.2 ⟨fun d hd => ?_,Gg h'.2⟩
   rcases Mj.1 hd with⟨hd,_⟩ | rfl
   ·exact h'.1 d hd
   ·exact k
  ·rw[if_neg k]
   refine List.pairwise_cons.2 ⟨fun d hd => ?_,Mi h⟩
   obtain⟨hd,hn⟩:=Ge.1 hd
   show aR r d.1=true
   rcases mC c.1 r with e | e | e
   ·exact absurd e k
   ·rcases List.mem_cons.1 hd with rfl | hd
    ·exact absurd e hn
    ·rw[←e]
     exact h'.1 d hd
   ·rcases List.mem_cons.1 hd with rfl | hd
    ·exact e
    ·exact eP e (h'.1 d hd)
theorem Gh {r:ai} {x:ByteArray} {s:List ab} (h:eZ s):eZ (fi s r x):=by
 unfold fi
 split
 ·exact Mi h
 ·exact Gg h
theorem SB (s:List ab) (r:ai) (x:ByteArray):(fi s r x).length≤s.length+1:=by
 unfold fi
 split
 ·have:=Gf r s
  omega
 ·exact SA r x s
theorem Mk {r:ai} {x:ByteArray} {s:List ab} {c:ab}:c∈fi s r x↔(c∈s∧c.1≠r)∨(x≠eS∧c=(r,x,())):=by
 unfold fi
 by_cases h:x=eS
 ·rw[if_pos h,Ge]
  simp[h]
 ·rw[if_neg h,Mj]
  simp[h]
theorem C6 {q:ai} : ∀ {s:List ab},(∀ c∈s,c.1≠q)→dn q s=eS
 | [],_=>rfl
 | c :: l,h=>by
  rw[dn,if_neg (h c (by simp))]
  exact C6 fun d hd=>h d (List.mem_cons_of_mem _ hd)
theorem qz {s:List ab} (h:aY s=true):eZ s:=(dG.1 h).1
theorem mD {s:List ab} (h:aY s=true):s.length≤120:=(dG.1 h).2.2
theorem Kr {s:List ab} (h:aY s=true) : ∀ c∈s,c.2.1.size≤200:=fun c hc=>NO ((dG.1 h).2.1 c hc).2
theorem Lu {s:List ab} {r:ai} {x:ByteArray} (h:aY s=true) (hr:ar r=true) (hx:x≠eS→eY x=true) (hl:(fi s r x).length≤120):aY (fi s r x)=true:=by
 rw[dG] at h ⊢
 refine⟨Gh h.1,?_,hl⟩
 intro c hc
 rcases Mk.1 hc with⟨hc,_⟩ | ⟨hn,rfl⟩
 ·exact h.2.1 c hc
 ·exact⟨hr,hx hn⟩
end Go.Proofs.YtddiiceaindlhaaGreatDoor.Abs
set_option linter.unusedVariables false
set_option linter.unusedSimpArgs false
set_option linter.unusedSectionVars false
namespace Go.Proofs.YtddiiceaindlhaaGreatDoor.Abs
open Go
def C7 (l:List ai):Prop:=l.Pairwise fun a b=>aR a b=true
def qb (r:ai):List ai→List ai
 | []=>[r]
 | c :: l=>if aR c r=true then c :: qb r l else if c=r then c :: l else r :: c :: l
def rq (l:List ai):List ai:=l.foldr qb []
theorem C8 {r q:ai} : ∀ {l:List ai},q∈qb r l↔q=r∨q∈l
 | []=>by simp[qb]
 | c :: l=>by
  unfold qb
  by_cases h:aR c r=true
  ·rw[if_pos h,List.mem_cons,C8 (l:=l),List.mem_cons]
   constructor
   ·rintro(h | h | h)
    ·exact .inr (.inl h)
    ·exact .inl h
    ·exact .inr (.inr h)
   ·rintro(h | h | h)
    ·exact .inr (.inl h)
    ·exact .inl h
    ·exact .inr (.inr h)
  ·rw[if_neg h]
   by_cases e:c=r
   ·rw[if_pos e,List.mem_cons]
    constructor
    ·rintro(h | h)
     ·exact .inl (h.trans e)
     ·exact .inr (.inr h)
    ·rintro(h | h | h)
     ·exact .inl (h.trans e.symm)
     ·exact .inl h
     ·exact .inr h
   ·rw[if_neg e,List.mem_cons]
theorem Ks {r:ai} : ∀ {l:List ai},C7 l→C7 (qb r l)
 | [],_=>by simp[qb,C7]
 | c :: l,h=>by
  have h':=List.pairwise_cons.1 h
  unfold qb
  by_cases k:aR c r=true
  ·rw[if_pos k]
   refine List.pairwise_cons.2 ⟨fun d hd => ?_,Ks h'.2⟩
   rcases C8.1 hd with rfl | hd
   ·exact k
   ·exact h'.1 d hd
  ·rw[if_neg k]
   by_cases e:c=r
   ·rw[if_pos e]
    exact h
   ·rw[if_neg e]
    have hr:aR r c=true:=by
     rcases mC c r with x | x | x
     ·exact absurd x k
     ·exact absurd x e
     ·exact x
    refine List.pairwise_cons.2 ⟨fun d hd => ?_,h⟩
    rcases List.mem_cons.1 hd with rfl | hd
    ·exact hr
    ·exact eP hr (h'.1 d hd)
theorem C9 : ∀ l:List ai,C7 (rq l)
 | []=>List.Pairwise.nil
 | c :: l=>Ks (C9 l)
theorem Da {q:ai} : ∀ {l:List ai},q∈rq l↔q∈l
 | []=>Iff.rfl
 | c :: l=>by
  show q∈qb c (rq l)↔_
  rw[C8,Da (l:=l),List.mem_cons]
theorem Rj {l m:List ai} (hl:C7 l) (hm:C7 m) (h : ∀ q,q∈l↔q∈m):l=m:=Kp (lt:=aR) lh (fun _ _ _=>eP) hl hm h
theorem Db : ∀ l:List ai,(rq l).length≤l.length
 | []=>Nat.le_refl _
 | c :: l=>by
  have ih:=Db l
  have : ∀ m:List ai,(qb c m).length≤m.length+1:=by
   intro m
   induction m with
   | nil=>simp[qb]
   | cons d m ih =>
    unfold qb
    split
    ·simp only[List.length_cons]
     omega
    ·split
     ·simp only[List.length_cons]
      omega
     ·simp only[List.length_cons]
      omega
  have:=this (rq l)
  show(qb c (rq l)).length≤_
  simp only[List.length_cons]
  omega
def Dc (l:List aH):Prop:=l.Pairwise fun a b=>aR a.1 b.1=true
def Dd (L M:List ab) (c:aH):Prop:=c.2.1=dn c.1 L∧c.2.2.1=dn c.1 M∧c.2.1≠c.2.2.1
theorem Kt {l m:List aH} (hl:Dc l) (hm:Dc m) (h : ∀ q,q∈l↔q∈m):l=m:=Kp (lt:=fun a b:aH=>aR a.1 b.1) (fun _=>lh _) (fun _ _ _ h k=>eP h k) hl hm h
noncomputable def RU (a b:List ab) (q:ai):aH:=(q,dn q a,dn q b,())
noncomputable def fN (a:List ab):List ai:=a.map fun c=>c.1
noncomputable def pd (a b:List ab):List aH:=((rq (fN a++fN b)).map (RU a b)).filter fun c => !decide (c.2.1=c.2.2.1)
theorem Gi (a b:List ab):Dc (pd a b):=by
 refine List.Pairwise.filter _ ?_
 rw[List.pairwise_map]
 exact C9 _
theorem De {a:List ab} {q:ai}:q∈fN a ↔ ∃ c∈a,c.1=q:=by simp[fN]
theorem qA {a:List ab} {q:ai} (h:dn q a≠eS):q∈fN a:=by
 rw[De]
 apply Classical.byContradiction
 intro hn
 exact h (C6 fun c hc e=>hn ⟨c,hc,e⟩)
theorem Bw {a b:List ab} {c:aH}:c∈pd a b↔Dd a b c:=by
 unfold pd Dd
 rw[List.mem_filter,List.mem_map]
 constructor
 ·rintro⟨⟨q,_,rfl⟩,h⟩
  exact⟨rfl,rfl,by simpa using h⟩
 ·rintro⟨h1,h2,h3⟩
  refine⟨⟨c.1,?_,?_⟩,by simpa using h3⟩
  ·rw[Da,List.mem_append]
   by_cases e:dn c.1 a=eS
   ·exact .inr (qA fun e2=>h3 (by rw[h1,h2,e,e2]))
   ·exact .inl (qA e)
  ·exact Prod.ext rfl (Prod.ext h1.symm (Prod.ext h2.symm rfl))
theorem SC (a b:List ab):(pd a b).length≤a.length+b.length:=by
 unfold pd
 refine Nat.le_trans (List.length_filter_le _ _) ?_
 rw[List.length_map]
 refine Nat.le_trans (Db _) ?_
 simp[fN]
noncomputable def cC (c:aH) (r:List aH):List aH:=if c.2.1=c.2.2.1 then r else c :: r
theorem Tx {c d:aH} {r:List aH}:c∈cC d r↔(c=d∧d.2.1≠d.2.2.1)∨c∈r:=by
 unfold cC
 by_cases h:d.2.1=d.2.2.1
 ·rw[if_pos h]
  simp[h]
 ·rw[if_neg h,List.mem_cons]
  simp[h]
theorem xe {q:ai} {f t:ByteArray} {L M L' M':List ab} {r:List aH} (hf:dn q L=f) (ht:dn q M=t) (hL : ∀ p,p≠q→dn p L=dn p L') (hM : ∀ p,p≠q→dn p M=dn p M') (nL:dn q L'=eS) (nM:dn q M'=eS)
  (ih : ∀ c,c∈r↔Dd L' M' c) : ∀ c,c∈cC (q,f,t,()) r↔Dd L M c:=by
 intro c
 rw[Tx,ih]
 unfold Dd
 by_cases e:c.1=q
 ·rw[e,hf,ht,nL,nM]
  constructor
  ·rintro(⟨rfl,h⟩ | ⟨h1,h2,h3⟩)
   ·exact⟨rfl,rfl,h⟩
   ·exact absurd (h1.trans h2.symm) h3
  ·rintro⟨h1,h2,h3⟩
   refine .inl ⟨Prod.ext e (Prod.ext h1 (Prod.ext h2 rfl)),?_⟩
   rw[h1,h2] at h3
   exact h3
 ·rw[hL _ e,hM _ e]
  constructor
  ·rintro(⟨rfl,h⟩ | h)
   ·exact absurd rfl e
   ·exact h
  ·exact fun h => .inr h
theorem Ap {q:ai} {f t:ByteArray} {r:List aH} (hr:Dc r) (hq : ∀ c∈r,aR q c.1=true):Dc (cC (q,f,t,()) r):=by
 unfold cC
 split
 ·exact hr
 ·exact List.pairwise_cons.2 ⟨hq,hr⟩
noncomputable def jR:List ab→List ab→List aH
 | [],[]=>[]
 | a :: l,[]=>cC (a.1,a.2.1,eS,()) (jR l [])
 | [],b :: m=>cC (b.1,eS,b.2.1,()) (jR [] m)
 | a :: l,b :: m=>if aR a.1 b.1=true then cC (a.1,a.2.1,eS,()) (jR l (b :: m)) else if aR b.1 a.1=true then cC (b.1,eS,b.2.1,()) (jR (a :: l) m) else cC (a.1,a.2.1,b.2.1,()) (jR l m)
termination_by l m=>l.length+m.length
theorem ib {p:ai} {a:ab} {l:List ab} (h:p≠a.1):dn p (a :: l)=dn p l:=by rw[dn,if_neg (fun e=>h e.symm)]
theorem ic {a:ab} {l:List ab}:dn a.1 (a :: l)=a.2.1:=by rw[dn,if_pos rfl]
theorem ep {q:ai} {l:List ab} (h : ∀ c∈l,aR q c.1=true):dn q l=eS:=C6 fun c hc e=>by
 have:=h c hc
 rw[e,lh] at this
 cases this
theorem tS {L M:List ab} {c:aH} (h:Dd L M c):(∃ d∈L,d.1=c.1) ∨ ∃ d∈M,d.1=c.1:=by
 obtain⟨h1,h2,h3⟩:=h
 by_cases e:dn c.1 L=eS
 ·exact .inr (De.1 (qA fun e2=>h3 (by rw[h1,h2,e,e2])))
 ·exact .inl (De.1 (qA e))
theorem xf : ∀(l m:List ab),eZ l→eZ m→Dc (jR l m) ∧ ∀ c,c∈jR l m↔Dd l m c
 | [],[],_,_=>by
  unfold jR
  refine⟨List.Pairwise.nil,fun c=>⟨(fun h=>by cases h),?_⟩⟩
  rintro⟨h1,h2,h3⟩
  exact absurd (h1.trans h2.symm) h3
 | a :: l,[],hl,hm=>by
  have hl':=List.pairwise_cons.1 hl
  obtain⟨i1,i2⟩:=xf l [] hl'.2 hm
  unfold jR
  refine⟨Ap i1 fun c hc => ?_,xe ic rfl (fun p hp=>ib hp) (fun _ _=>rfl) (ep hl'.1) rfl i2⟩
  rcases tS ((i2 c).1 hc) with⟨d,hd,e⟩ | ⟨d,hd,e⟩
  ·rw[←e]
   exact hl'.1 d hd
  ·cases hd
 | [],b :: m,hl,hm=>by
  have hm':=List.pairwise_cons.1 hm
  obtain⟨i1,i2⟩:=xf [] m hl hm'.2
  unfold jR
  refine⟨Ap i1 fun c hc => ?_,xe rfl ic (fun _ _=>rfl) (fun p hp=>ib hp) rfl (ep hm'.1) i2⟩
  rcases tS ((i2 c).1 hc) with⟨d,hd,e⟩ | ⟨d,hd,e⟩
  ·cases hd
  ·rw[←e]
   exact hm'.1 d hd
 | a :: l,b :: m,hl,hm=>by
  have hl':=List.pairwise_cons.1 hl
  have hm':=List.pairwise_cons.1 hm
  unfold jR
  by_cases h1:aR a.1 b.1=true
  ·rw[if_pos h1]
   obtain⟨i1,i2⟩:=xf l (b :: m) hl'.2 hm
   have hb : ∀ c∈b :: m,aR a.1 c.1=true:=by
    intro c hc
    rcases List.mem_cons.1 hc with rfl | hc
    ·exact h1
    ·exact eP h1 (hm'.1 c hc)
   refine⟨Ap i1 fun c hc => ?_,xe ic (ep hb) (fun p hp=>ib hp) (fun _ _=>rfl) (ep hl'.1) (ep hb) i2⟩
   rcases tS ((i2 c).1 hc) with⟨d,hd,e⟩ | ⟨d,hd,e⟩
   ·rw[←e]
    exact hl'.1 d hd
   ·rw[←e]
    exact hb d hd
  ·rw[if_neg h1]
   by_cases h2:aR b.1 a.1=true
   ·rw[if_pos h2]
    obtain⟨i1,i2⟩:=xf (a :: l) m hl hm'.2
    have ha : ∀ c∈a :: l,aR b.1 c.1=true:=by
     intro c hc
     rcases List.mem_cons.1 hc with rfl | hc
     ·exact h2
     ·exact eP h2 (hl'.1 c hc)
    refine⟨Ap i1 fun c hc => ?_,xe (ep ha) ic (fun _ _=>rfl) (fun p hp=>ib hp) (ep ha) (ep hm'.1) i2⟩
    rcases tS ((i2 c).1 hc) with⟨d,hd,e⟩ | ⟨d,hd,e⟩
    ·rw[←e]
     exact ha d hd
    ·rw[←e]
     exact hm'.1 d hd
   ·rw[if_neg h2]
    obtain⟨i1,i2⟩:=xf l m hl'.2 hm'.2
    have e:a.1=b.1:=by
     rcases mC a.1 b.1 with h | h | h
     ·exact absurd h h1
     ·exact h
     ·exact absurd h h2
    have hm'1 : ∀ c∈m,aR a.1 c.1=true:=by
     rw[e]
     exact hm'.1
    refine⟨Ap i1 fun c hc => ?_,xe ic (by rw[e]; exact ic) (fun p hp=>ib hp) (fun p hp=>ib (by rw[←e]; exact hp)) (ep hl'.1) (ep hm'1) i2⟩
    rcases tS ((i2 c).1 hc) with⟨d,hd,e'⟩ | ⟨d,hd,e'⟩
    ·rw[←e']
     exact hl'.1 d hd
    ·rw[←e']
     exact hm'1 d hd
termination_by l m=>l.length+m.length
theorem Tz {l m:List ab} (hl:eZ l) (hm:eZ m):jR l m=pd l m:=by
 obtain⟨h1,h2⟩:=xf l m hl hm
 exact Kt h1 (Gi _ _) fun c=>by rw[h2,Bw]
end Go.Proofs.YtddiiceaindlhaaGreatDoor.Abs
set_option linter.unusedVariables false
set_option linter.unusedSimpArgs false
set_option linter.unusedSectionVars false
namespace Go.Proofs.YtddiiceaindlhaaGreatDoor.Abs
open Go
def Ku (s:List ab):Prop:=eZ s ∧ ∀ c∈s,ar c.1=true∧eY c.2.1=true
theorem PP {s:List ab} (h:aY s=true):Ku s:=⟨(dG.1 h).1,(dG.1 h).2.1⟩
theorem Kv {s:List ab} (h:Ku s) (hl:s.length≤120):aY s=true:=dG.2 ⟨h.1,h.2,hl⟩
theorem TA {s:List ab} (h:Ku s) : ∀ c∈s,c.2.1≠eS:=fun c hc=>Kq (h.2 c hc).2
theorem SD {s:List ab} {r:ai} {x:ByteArray} (h:Ku s) (hr:ar r=true) (hx:x≠eS→eY x=true):Ku (fi s r x):=by
 refine⟨Gh h.1,?_⟩
 intro c hc
 rcases Mk.1 hc with⟨hc,_⟩ | ⟨hn,rfl⟩
 ·exact h.2 c hc
 ·exact⟨hr,hx hn⟩
def Ul (c:aH):aH:=(c.1,c.2.2.1,c.2.1,())
theorem Df {a b:List ab} (ha:aY a=true) (hb:aY b=true):(pd a b).length≤240:=by
 have:=SC a b
 have:=mD ha
 have:=mD hb
 omega
end Go.Proofs.YtddiiceaindlhaaGreatDoor.Abs
set_option linter.unusedVariables false
set_option linter.unusedSimpArgs false
set_option linter.unusedSectionVars false
namespace Go.Proofs.YtddiiceaindlhaaGreatDoor.Abs
open Go
section
variable {α R:Type}
def i7 (p:α→Bool):List α→Nat→Int
 | [],_ => -1
 | c :: l,n=>if p c=true then(n:Int) else i7 p l (n+1)
theorem yq {p:α→Bool} {s:List α} {d:α} {P:Int→Option R} {F:Int→Option R} (hl:s.length≤1000000000000)
  (hP : ∀ j,P j=if decide (j < (s.length:Int))=true then ix s j d fun y=>if p y=true then F j else P (IntKind.i64.wrap (j+1)) else F (-1)) : ∀(ys pre:List α),s=pre++ys→P (pre.length:Int)=F (i7 p ys pre.length)
 | [],pre,h=>by
  rw[hP,av (bO h)]
  rfl
 | y :: ys,pre,h=>by
  have ih:=yq hl hP ys (pre++[y]) (aK h)
  rw[hP,aD (bP h),bv h,aX h (by omega),ih,List.length_append,List.length_singleton]
  show _=F (if p y=true then(pre.length:Int) else i7 p ys (pre.length+1))
  by_cases hp:p y=true
  ·rw[if_pos hp,if_pos hp]
  ·rw[if_neg hp,if_neg hp]
theorem Bx {p:α→Bool} : ∀ {l:List α} {n:Nat},i7 p l n = -1 → ∀ c∈l,p c=false
 | [],_,_,c,h=>by cases h
 | x :: l,n,e,c,h=>by
  unfold i7 at e
  by_cases hx:p x=true
  ·rw[if_pos hx] at e
   omega
  ·rw[if_neg hx] at e
   rcases List.mem_cons.1 h with rfl | h
   ·simpa using hx
   ·exact Bx e c h
theorem Bz {p:α→Bool} : ∀ {l:List α} {n:Nat},i7 p l n ≠ -1 → ∃ pre x ys,l=pre++x :: ys∧p x=true∧(∀ c∈pre,p c=false)∧i7 p l n=((n+pre.length:Nat):Int)
 | [],_,e=>absurd rfl e
 | x :: l,n,e=>by
  unfold i7 at e ⊢
  by_cases hx:p x=true
  ·rw[if_pos hx]
   exact⟨[],x,l,rfl,hx,(fun c h=>by cases h),rfl⟩
  ·rw[if_neg hx] at e ⊢
   obtain⟨pre,z,ys,h1,h2,h3,h4⟩:=Bz e
   refine⟨x :: pre,z,ys,by rw[h1]; rfl,h2,?_,?_⟩
   ·intro c hc
    rcases List.mem_cons.1 hc with rfl | hc
    ·simpa using hx
    ·exact h3 c hc
   ·rw[h4,List.length_cons]
    congr 1
    omega
theorem tT {p:α→Bool} {d:α} {P:Int→Int→List α→Option R} {F:List α→Option R}
  (hP : ∀ i j xs,P i j xs=if decide (j < (xs.length:Int))=true then inb xs j (if(!p (List.getD xs (Int.toNat j) d))=true then inb xs i (P (IntKind.i64.wrap (i+1)) (IntKind.i64.wrap (j+1)) (List.set xs (Int.toNat i) (List.getD xs (Int.toNat j) d))) else P i (IntKind.i64.wrap (j+1)) xs)
   else(if(0:Int)≤i then(if i < (xs.length:Int) then Je (List.take (Int.toNat i) xs++List.replicate (xs.length - Int.toNat i) d) i F else none) else none)) :
  ∀(ys kept junk:List α),kept.length+junk.length+ys.length≤1000000000000→junk≠[]→P (kept.length:Int) ((kept.length+junk.length:Nat):Int) (kept++junk++ys)=F (kept++ys.filter fun c => !p c)
 | [],kept,junk,hl,hj=>by
  have hjl:=List.length_pos_iff.2 hj
  rw[hP,av (by simp only[List.length_append,List.length_nil]; omega),if_pos (by omega),if_pos (by simp only[List.length_append,List.length_nil]; omega)]
  simp only[List.append_nil,Int.toNat_natCast,List.filter_nil]
  rw[Pi (by omega) (by simp only[List.length_append,List.length_take,List.length_replicate]; omega)]
  simp
 | y :: ys,kept,junk,hl,hj=>by
  have hjl:=List.length_pos_iff.2 hj
  rw[List.length_cons] at hl
  have e1:kept++junk++y :: ys=(kept++junk)++y :: ys:=rfl
  have hlen:((kept++junk).length:Int)=((kept.length+junk.length:Nat):Int):=by simp
  have hg:List.getD (kept++junk++y :: ys) (Int.toNat ((kept.length+junk.length:Nat):Int)) d=y:=by
   rw[←hlen]
   exact fU
  rw[hP,aD (by rw[List.length_append,List.length_append,List.length_cons]; omega),iZ (by omega) (by rw[List.length_append,List.length_append,List.length_cons]; omega),hg]
  by_cases hp:p y=true
  ·rw[hp,if_neg (by decide),wr (by omega) (by omega)]
   have ih:=tT hP ys kept (junk++[y]) (by simp only[List.length_append,List.length_singleton]; omega) (by simp)
   have e2:kept++(junk++[y])++ys=kept++junk++y :: ys:=by simp
   have e3:((kept.length+(junk++[y]).length:Nat):Int)=((kept.length+junk.length:Nat):Int)+1:=by simp; omega
   rw[e2,e3] at ih
   rw[ih,List.filter_cons_of_neg (by simp[hp])]
  ·have hp':p y=false:=by simpa using hp
   rw[hp',if_pos (show(!false)=true from rfl),iZ (by omega) (by rw[List.length_append,List.length_append,List.length_cons]; omega),wr (by omega) (by omega),wr (by omega) (by omega)]
   obtain⟨z,zs,rfl⟩ : ∃ z zs,junk=z :: zs:=by
    cases junk with
    | nil=>exact absurd rfl hj
    | cons z zs=>exact⟨z,zs,rfl⟩
   have ih:=tT hP ys (kept++[y]) (zs++[y]) (by simp only[List.length_append,List.length_nil,List.length_cons] at hl ⊢; omega) (by simp)
   have e2:List.set (kept++z :: zs++y :: ys) (Int.toNat (kept.length:Int)) y=kept++[y]++(zs++[y])++ys:=by simp
   have e3:(((kept++[y]).length+(zs++[y]).length:Nat):Int)=((kept.length+(z :: zs).length:Nat):Int)+1:=by simp; omega
   have e4:((kept++[y]).length:Int)=(kept.length:Int)+1:=by simp
   rw[e3,e4] at ih
   rw[e2,ih,List.filter_cons_of_pos (by simp[hp'])]
   simp
end
theorem qB {s:List ab} (hl:s.length≤1000000000):fb s=some ((s,()),()):=by
 rw[xY]
 unfold fe
 simp only[gI?,dite_true,Option.bind_some]
 exact if_pos (by omega)
theorem SE {s:List ab} {r:ai} (hl:s.length≤1000000000) : ∀(ys pre:List ab),s=pre++ys→bZ s (s.length:Int) (pre.length:Int) r=some ((i7 (fun c=>bB an c.1 r) ys pre.length,()),(r,())) :=
 yq (p:=fun c:ab=>bB an c.1 r) (d:=ac.dflt) (F:=fun j=>some ((j,()),(r,()))) (s:=s) (P:=fun j=>bZ s (s.length:Int) j r) (by omega) fun j=>by
  rw[jL]
  simp only[wH,Option.bind_some]
theorem Rk {s:List ab} {r:ai} (hl:s.length≤1000000000):ex s r.1 r.2.1=some ((i7 (fun c=>bB an c.1 r) s 0,()),(r,())):=by
 rw[lP,kb]
 cases s with
 | nil=>rfl
 | cons c l =>
  have h2:=SE (r:=r) hl l [c] rfl
  rw[aD (by rw[List.length_cons]; omega)]
  have hix : ∀ {β:Type} {F:ab→Option β},ix (c :: l) 0 ac.dflt F=F c:=fun {β F}=>bv (pre:=[]) (ys:=l) rfl
  rw[hix,H6,Option.bind_some]
  show(if bB an c.1 r=true then _ else _)=_
  unfold i7
  by_cases h:bB an c.1 r=true
  ·rw[if_pos h,if_pos h]
   rfl
  ·rw[if_neg h,if_neg h]
   exact h2
theorem TB (r:ai):(fun c:ab => !bB an c.1 r)=fun c => !decide (c.1=r):=by
 funext c
 congr 1
 rw[Bool.eq_iff_iff,decide_eq_true_eq,pc]
theorem Rl {s:List ab} {r:ai} (hl:s.length≤1000000000):dM s r.1 r.2.1=some ((g7 r s,()),(r,())):=by
 rw[j8,Rk hl,Option.bind_some]
 dsimp only
 by_cases h:i7 (fun c:ab=>bB an c.1 r) s 0 = -1
 ·rw[h,if_pos (by rfl)]
  have:=Bx h
  rw[PO fun c hc=>by
   have:=this c hc
   intro e
   rw[pc.mpr e] at this
   cases this]
 ·obtain⟨pre,x,ys,h1,h2,h3,h4⟩:=Bz h
  rw[if_neg (by simpa using h),h4,Nat.zero_add]
  have hlen:pre.length+1+ys.length≤1000000000:=by rw[h1] at hl; simp at hl; omega
  have hd:=tT (p:=fun c:ab=>bB an c.1 r) (d:=ac.dflt) (P:=fun i j xs=>bR i j xs r) (F:=fun l=>some ((l,()),(r,()))) (fun i j xs=>by
   rw[ja]
   simp only[wH,Option.bind_some]) ys pre [x] (by simp only[List.length_singleton]; omega) (by simp)
  rw[wr (by omega) (by omega)]
  have e1:pre++[x]++ys=s:=by rw[h1]; simp
  have e2:((pre.length+[x].length:Nat):Int)=(pre.length:Int)+1:=by simp
  rw[e1,e2] at hd
  refine hd.trans ?_
  have e3:g7 r s=pre++ys.filter fun c => !bB an c.1 r:=by
   rw[TB r]
   unfold g7
   rw[h1,List.filter_append,List.filter_cons_of_neg (by simp[pc.mp h2])]
   congr 1
   rw[List.filter_eq_self]
   intro c hc
   have:=h3 c hc
   simp only[Bool.not_eq_true',decide_eq_false_iff_not]
   intro e
   rw[pc.mpr e] at this
   cases this
  rw[e3]
def PQ (a b:ab):Bool:=aR a.1 b.1
theorem NP:Sort.SWO (α:=ai) aR where
 irrefl:=lh
 trans _ _ _ h k:=eP h k
 ntrans x y z h k:=by
  rw[Bool.eq_false_iff] at h k ⊢
  intro hz
  rcases mC x y with e | e | e
  ·exact h e
  ·subst e
   exact k hz
  ·exact k (eP e hz)
theorem NQ:Sort.SWO (α:=ac.den) PQ where
 irrefl x:=NP.irrefl x.1
 trans x y z h k:=NP.trans x.1 y.1 z.1 h k
 ntrans x y z h k:=NP.ntrans x.1 y.1 z.1 h k
theorem PR {s:List ab} (hl:s.length≤1000000000):ed s=some ((),(cW (α:=ac.den) PQ s,())):=by
 rw[la]
 unfold dz
 simp only[gI?,dite_true,Option.bind_some,if_true]
 exact if_pos (by omega)
theorem NR {r:ai} {x:ByteArray} {s:List ab} (h:eZ s):cW (α:=ac.den) PQ (g7 r s++[(r,x,())])=qa r x s :=
 vc ((mi NQ _).trans (tR s).symm) (rh NQ _) (Gg h)
theorem Lv {s:List ab} {r:ai} {x:ByteArray} (h:eZ s) (hl:s.length≤1000000):CN s r x=some ((fi s r x,()),()):=by
 have hd:=Gf r s
 rw[Ld,qB (by omega),Option.bind_some]
 dsimp only
 rw[Rl (by omega),Option.bind_some]
 dsimp only
 unfold fi
 by_cases hx:x=eS
 ·subst hx
  rw[if_pos rfl,if_neg (by simp[jE])]
 ·rw[if_neg hx,show(ByteArray.toList x == ByteArray.toList (⟨#[]⟩:ByteArray))=decide (x=eS) from jE,decide_eq_false hx,if_pos (by rfl),bo (by simp only[List.length_singleton]; omega),PR (by simp only[List.length_append,List.length_singleton]; omega),Option.bind_some]
  dsimp only
  rw[NR h]
section
variable {s:List ab} {r:ai} {x:ByteArray} (hl:s.length≤1000000)
include hl
theorem mE : ∀(ys pre acc:List ab),s=pre++ys→acc.length+ys.length≤1000010→gy s x true (pre.length:Int) r.1 r.2.1 acc=some ((acc++g7 r ys,()),())
 | [],pre,acc,h,ha=>by
  rw[oZ,av (bO h)]
  simp[g7]
 | y :: ys,pre,acc,h,ha=>by
  rw[List.length_cons] at ha
  rw[oZ,aD (bP h)]
  simp only[Bool.not_true,Bool.false_eq_true,if_false,bv h]
  show(if(!bB an y.1 r)=true then _ else _)=_
  by_cases e:y.1=r
  ·rw[pc.mpr e,if_neg (by decide),aX h (by omega),mE ys _ acc (aK h) (by omega),Co e]
  ·have e':bB an y.1 r=false:=by rw[Bool.eq_false_iff,ne_eq,pc]; exact e
   rw[e',if_pos (by rfl),bo (by simp only[List.length_singleton]; omega),aX h (by omega),mE ys _ _ (aK h) (by simp only[List.length_append,List.length_singleton]; omega),vH e]
   simp
theorem Aq : ∀(ys pre acc:List ab),s=pre++ys→acc.length+ys.length≤1000000→gy s x false (pre.length:Int) r.1 r.2.1 acc=some ((acc++qa r x ys,()),())
 | [],pre,acc,h,ha=>by
  rw[oZ,av (bO h),if_pos (by rfl),bo (by simp only[List.length_singleton,List.length_nil] at ha ⊢; omega)]
  rfl
 | y :: ys,pre,acc,h,ha=>by
  rw[List.length_cons] at ha
  rw[oZ,aD (bP h),if_pos (by rfl)]
  simp only[bv h,vF,Option.bind_some]
  show(if(!aR y.1 r)=true then _ else _)=_
  unfold qa
  cases k:aR y.1 r with
  | true =>
   have e:=C5 k
   have e':bB an y.1 r=false:=by rw[Bool.eq_false_iff,ne_eq,pc]; exact e
   rw[if_neg (by decide),if_pos rfl]
   show(if(!bB an y.1 r)=true then _ else _)=_
   rw[e',if_pos (by rfl),bo (by simp only[List.length_singleton]; omega),aX h (by omega),Aq ys _ _ (aK h) (by simp only[List.length_append,List.length_singleton]; omega)]
   simp
  | false =>
   rw[if_pos (by decide),if_neg (by decide),bo (by simp only[List.length_singleton]; omega)]
   show(if(!bB an y.1 r)=true then _ else _)=_
   by_cases e:y.1=r
   ·rw[pc.mpr e,if_neg (by decide),aX h (by omega),mE hl ys _ _ (aK h) (by simp only[List.length_append,List.length_singleton]; omega),Co e]
    simp
   ·have e':bB an y.1 r=false:=by rw[Bool.eq_false_iff,ne_eq,pc]; exact e
    rw[e',if_pos (by rfl),bo (by simp only[List.length_append,List.length_singleton]; omega),aX h (by omega),mE hl ys _ _ (aK h) (by simp only[List.length_append,List.length_singleton]; omega),vH e]
    simp
theorem Hx:wx s r x=some ((fi s r x,()),()):=by
 rw[O6]
 unfold fi
 by_cases hx:x=eS
 ·subst hx
  rw[if_pos rfl,show(ByteArray.toList eS == ByteArray.toList (⟨#[]⟩:ByteArray))=decide (eS=eS) from jE,decide_eq_true rfl]
  exact mE hl s [] [] rfl (by simp only[List.length_nil]; omega)
 ·rw[if_neg hx]
  have:(ByteArray.toList x == ByteArray.toList (⟨#[]⟩:ByteArray))=false:=by
   rw[show(ByteArray.toList x == ByteArray.toList (⟨#[]⟩:ByteArray))=decide (x=eS) from jE,decide_eq_false hx]
  rw[this]
  exact Aq hl s [] [] rfl (by simp only[List.length_nil]; omega)
end
end Go.Proofs.YtddiiceaindlhaaGreatDoor.Abs
set_option linter.unusedVariables false
set_option linter.unusedSimpArgs false
set_option linter.unusedSectionVars false
namespace Go.Proofs.YtddiiceaindlhaaGreatDoor.Abs
open Go
theorem Um {a b:ByteArray}:(ByteArray.toList a == ByteArray.toList b)=decide (a=b):=jE
theorem Un {a:ByteArray}:(ByteArray.toList a == ByteArray.toList (⟨#[]⟩:ByteArray))=decide (a=eS):=jE
section
variable {l:List aH} (hl:l.length≤360) (hsz : ∀ c∈l,c.2.2.1.size≤9223372036854775807)
include hl hsz
end
section
variable {s:List ab} {l:List aH} (hs : ∀ c∈s,c.2.1.size≤9223372036854775807) (hsl:s.length≤1000000000) (hsz : ∀ c∈l,c.2.2.1.size≤9223372036854775807)
include hs hsl hsz
end
end Go.Proofs.YtddiiceaindlhaaGreatDoor.Abs
