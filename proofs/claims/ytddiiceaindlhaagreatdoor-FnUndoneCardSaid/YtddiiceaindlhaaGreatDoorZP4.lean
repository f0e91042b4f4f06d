/- Plain laws: numbers that are typed. -/
import Derived.Test.YtddiiceaindlhaaGreatDoorZP3
set_option linter.unusedVariables false
set_option linter.unusedSimpArgs false
set_option linter.unusedSectionVars false
namespace Go.Proofs.YtddiiceaindlhaaGreatDoor.Abs
open Go
def iw (d:ac):Bool:=d.all dh && decide (bo 0 d≤1000000000000000)
theorem Pg {d:ac} (hne:d≠[]) (h:d.length=1∨d.head? ≠ some 48):iI d=d.all dh:=by
 have hl:=List.length_pos_iff.2 hne
 unfold iI
 rw[decide_eq_true (show 1≤d.length by omega),Bool.and_true]
 rcases h with h | h
 ·rw[decide_eq_true h]; simp
 ·rw[decide_eq_false h]; simp
theorem Ph {d:ac} (hne:d≠[]) (h:d.length=1∨d.head? ≠ some 48):(cB d 16 && decide (bo 0 d≤1000000000000000))=iw d:=by
 unfold cB iw
 rw[Pg hne h]
 cases ha:d.all dh with
 | false=>simp
 | true =>
  simp only[Bool.true_and]
  by_cases hv:bo 0 d≤1000000000000000
  ·have hd:=(LN d (by rw[Pg hne h]; exact ha)).1
   have:=Na hv
   rw[hd] at this
   rw[decide_eq_true this]
   rfl
  ·rw[decide_eq_false hv,Bool.and_false]
theorem T0 {d:ac} (h:cB d 16=true):bo 0 d < 10000000000000000:=by
 unfold cB iI at h
 simp only[Bool.and_eq_true,decide_eq_true_eq] at h
 have:=AO d 0 h.1.1.1
 have h2:10 ^ d.length≤10 ^ 16:=Nat.pow_le_pow_right (by decide) h.2
 omega
theorem QT (n:Int):aN (vN n)=bz n (-1000000000000000) 1000000000000000:=by
 unfold aN vN
 simp
def p4 (b:Bool) (n:Nat):Int:=if b=true then -(n:Int) else n
theorem J2 {b:Bool} {n:Nat}:aN (vN (p4 b n))=decide (n≤1000000000000000):=by
 rw[QT]
 unfold p4 bz
 rw[Bool.eq_iff_iff,decide_eq_true_eq,decide_eq_true_eq]
 cases b <;> simp <;> omega
theorem Pi {d:ac} {b:Bool}:((cR (ba d) 16).bind fun z4=>(if b=true then(if z4.1.2.1=true then((gY (1,(IntKind.i64.wrap (0 - z4.1.1)),(⟨#[]⟩:ByteArray),())).bind fun z5=>(some (((1,(IntKind.i64.wrap (0 - z4.1.1)),(⟨#[]⟩:ByteArray),()),z5.1.1,()),(())))) else(some (((1,(IntKind.i64.wrap (0 - z4.1.1)),(⟨#[]⟩:ByteArray),()),false,()),(())))) else(if z4.1.2.1=true then((gY (1,z4.1.1,(⟨#[]⟩:ByteArray),())).bind fun z6=>(some (((1,z4.1.1,(⟨#[]⟩:ByteArray),()),z6.1.1,()),(())))) else(some (((1,z4.1.1,(⟨#[]⟩:ByteArray),()),false,()),(()))))))
  = (some ((vN (p4 b (if cB d 16=true then bo 0 d else 0)),(cB d 16 && decide (bo 0 d≤1000000000000000)),()),()):Option ((ax×Bool×Unit)×Unit)):=by
 have e:=zM d (m:=16) (by decide)
 have e:cR (ba d) 16=_:=e
 rw[e]
 simp only[Option.bind_some]
 cases hr:cB d 16 with
 | false=>cases b <;> rfl
 | true =>
  have hlt:=T0 hr
  simp only[if_true,Bool.true_and]
  cases b with
  | true =>
   simp only[if_true]
   rw[wr (by omega) (by omega)]
   have ev:((1,0 - ((bo 0 d:Nat):Int),(⟨#[]⟩:ByteArray),()):ax)=vN (p4 true (bo 0 d)):=by
    unfold vN p4
    rw[if_pos rfl,show(0:Int) - ((bo 0 d:Nat):Int) = -((bo 0 d:Nat):Int) by omega]
   rw[ev,mB (by show eS.size≤_; decide),J2]
   rfl
  | false =>
   simp only[Bool.false_eq_true,if_false]
   have ev:((1,((bo 0 d:Nat):Int),(⟨#[]⟩:ByteArray),()):ax)=vN (p4 false (bo 0 d)):=rfl
   rw[ev,mB (by show eS.size≤_; decide),J2]
   rfl
theorem Nn {b:Bool} : ∀(d:ac),d≠[]→d.length≤9223372036854775807 → ∃ v:ax,jc (ba d) b 0 0 (⟨#[]⟩:ByteArray)=some ((v,iw d,()),())∧(iw d=true→v=vN (p4 b (bo 0 d)))
 | [],h,_=>absurd rfl h
 | c :: l,h,hl=>by
  have aR:(c :: l:ac).length=1∨(c :: l:ac).head? ≠ some 48 → ∃ v:ax,(some ((vN (p4 b (if cB (c :: l) 16=true then bo 0 (c :: l) else 0)),(cB (c :: l) 16 && decide (bo 0 (c :: l)≤1000000000000000)),()),()):Option ((ax×Bool×Unit)×Unit))=some ((v,iw (c :: l),()),())∧(iw (c :: l)=true→v=vN (p4 b (bo 0 (c :: l)))):=by
   intro hc
   rw[Ph h hc]
   refine⟨_,rfl,fun ho => ?_⟩
   rw[←Ph h hc,Bool.and_eq_true] at ho
   rw[if_pos ho.1]
  rw[D1,aq]
  by_cases h1:1 < (c :: l:ac).length
  ·rw[aI (by omega),o0,Cz c 48 (n:=48) rfl]
   by_cases h48:c=48
   ·subst h48
    rw[aI rfl,show(1:Int)=((1:Nat):Int) from rfl,fy (by simp)]
    simp only[List.drop_succ_cons,List.drop_zero]
    have hne:l≠[]:=by
     rintro rfl
     simp at h1
    have hll:l.length≤9223372036854775807:=by rw[List.length_cons] at hl; omega
    obtain⟨v,e1,e2⟩:=Nn (b:=b) l hne hll
    have eo:iw (48 :: l)=iw l:=by
     unfold iw
     rfl
    rw[eo]
    exact⟨v,e1,e2⟩
   ·rw[aE h48,Pi]
    exact aR (.inr (by simpa using h48))
  ·rw[aE (by omega),Pi]
   exact aR (.inl (by simp only[List.length_cons] at h1 ⊢; omega))
end Go.Proofs.YtddiiceaindlhaaGreatDoor.Abs
set_option linter.unusedVariables false
set_option linter.unusedSimpArgs false
set_option linter.unusedSectionVars false
namespace Go.Proofs.YtddiiceaindlhaaGreatDoor.Abs
open Go
def J3 (w:ac):Bool:=decide (w.head? = some 45)
def g8 (w:ac):ac:=if w.head? = some 45 then w.drop 1 else w
def fH (w:ac):Bool:=decide (g8 w≠[]) && iw (g8 w)
def jJ (w:ac):Int:=p4 (J3 w) (bo 0 (g8 w))
theorem zR {w:ac} (hw:w≠[]) (hl:w.length≤9223372036854775807) : ∃ v:ax,zm (ba w)=some ((v,fH w,()),())∧(fH w=true→v=vN (jJ w)):=by
 cases w with
 | nil=>exact absurd rfl hw
 | cons c l =>
  rw[Jn,aq,aI (by simp),o0,Cz c 45 (n:=45) rfl]
  by_cases hc:c=45
  ·subst hc
   have hm:g8 (45 :: l)=l:=rfl
   have hg:J3 (45 :: l)=true:=rfl
   have e0:(ByteArray.toList (ba l) == ByteArray.toList (⟨#[]⟩:ByteArray))=decide (l=[]):=cT (b:=[])
   rw[aI rfl,show(1:Int)=((1:Nat):Int) from rfl,fy (by simp)]
   simp only[List.drop_succ_cons,List.drop_zero]
   rw[e0]
   unfold fH jJ
   rw[hm,hg]
   by_cases hn:l=[]
   ·rw[aI hn]
    subst hn
    exact⟨_,rfl,fun h=>by cases h⟩
   ·rw[aE hn]
    obtain⟨v,e1,e2⟩:=Nn (b:=true) l hn (by rw[List.length_cons] at hl; omega)
    refine⟨v,?_,fun h => ?_⟩
    ·simpa[hn] using e1
    ·rw[Bool.and_eq_true] at h
     exact e2 h.2
  ·have hm:g8 (c :: l)=c :: l:=if_neg (by simpa using hc)
   have hg:J3 (c :: l)=false:=decide_eq_false (by simpa using hc)
   have e0:(ByteArray.toList (ba (c :: l)) == ByteArray.toList (⟨#[]⟩:ByteArray))=decide (c :: l=[]):=cT (b:=[])
   rw[aE hc,e0,aE (by simp)]
   unfold fH jJ
   rw[hm,hg]
   obtain⟨v,e1,e2⟩:=Nn (b:=false) (c :: l) (by simp) hl
   refine⟨v,?_,fun h => ?_⟩
   ·simpa[hc] using e1
   ·rw[Bool.and_eq_true] at h
    exact e2 h.2
theorem Tt:(fun c=>([48,49,50,51,52,53,54,55,56,57]:ac).contains c)=dh:=funext fun c=>o4 (p:=fun c=>([48,49,50,51,52,53,54,55,56,57]:ac).contains c=dh c) (by decide +kernel) c
theorem Ew {p:UInt8→Bool} : ∀ {l:ac} {x:UInt8} {t:ac},l.dropWhile p=x :: t→p x=false
 | c :: l,x,t,h=>by
  cases hc:p c with
  | true =>
   rw[List.dropWhile_cons_of_pos hc] at h
   exact Ew h
  | false =>
   rw[List.dropWhile_cons_of_neg (by rw[hc]; decide)] at h
   cases h
   exact hc
theorem uI {p:UInt8→Bool} : ∀ {l:ac},l.dropWhile p=[]↔l.all p=true
 | []=>by simp
 | c :: l=>by
  cases hc:p c with
  | true=>rw[List.dropWhile_cons_of_pos hc,uI]; simp[hc]
  | false=>rw[List.dropWhile_cons_of_neg (by rw[hc]; decide)]; simp[hc]
theorem QU (d:ac):(Lib.trimS d [48,49,50,51,52,53,54,55,56,57]=[])↔d.all dh=true:=by
 unfold Lib.trimS Lib.trimLeftS Lib.trimRightS
 rw[Tt,uI]
 constructor
 ·intro h
  cases hr:d.reverse.dropWhile dh with
  | nil =>
   rw[uI] at hr
   simpa using hr
  | cons x t =>
   have hx:=Ew hr
   rw[hr] at h
   simp only[List.all_reverse,List.all_cons,Bool.and_eq_true] at h
   rw[hx] at h
   cases h.1
 ·intro h
  have:d.reverse.dropWhile dh=[]:=uI.2 (by simpa using h)
  rw[this]
  rfl
theorem J4 {w:ac} (hl:w.length≤1000000):zp (ba w)=some (((decide (g8 w≠[]) && (g8 w).all dh),()),()):=by
 have hp:kZ (ba w) (⟨#[45]⟩:ByteArray)=some ((ba (g8 w),()),()):=by
  rw[wk,rT,show(⟨#[45]⟩:ByteArray)=ba [45] from rfl,vh _ _ (by omega)]
  simp only[Option.bind_some,Cx]
  unfold g8
  by_cases h:w.head? = some 45
  ·obtain⟨t,rfl⟩:=gH h
   rw[aI h,if_pos h,aq,fy (by simp)]
   rfl
  ·rw[aE h,if_neg h]
   rfl
 rw[Jo,hp]
 simp only[Option.bind_some]
 have e0 : ∀ x:ac,(ByteArray.toList (ba x) == ByteArray.toList (⟨#[]⟩:ByteArray))=decide (x=[]):=fun x=>cT (b:=[])
 have hm:(g8 w).length≤w.length:=by
  unfold g8
  split <;> simp
 rw[e0]
 by_cases hn:g8 w=[]
 ·simp[hn]
 ·have ht:sX (ba (g8 w)) (⟨#[48,49,50,51,52,53,54,55,56,57]⟩:ByteArray)=some ((ba (Lib.trimS (g8 w) [48,49,50,51,52,53,54,55,56,57]),()),()):=by
   rw[DZ]
   show(if sG (ba [48,49,50,51,52,53,54,55,56,57])=true∧(ba (g8 w)).size≤9223372036854775807 then some (((⟨(Lib.trimS (lb (ba (g8 w))) (lb (ba [48,49,50,51,52,53,54,55,56,57]))).toArray⟩:ByteArray),()),()) else none)=_
   rw[if_pos ⟨by decide +kernel,by rw[aq]; omega⟩,dw,dw]
  rw[ht]
  simp only[Option.bind_some,hn,decide_false,Bool.not_false,if_true,e0,ne_eq,not_false_eq_true,decide_true,Bool.true_and]
  congr 3
  rw[Bool.eq_iff_iff,decide_eq_true_eq]
  exact QU _
theorem J5 : ∀(l:ac) (a u:Nat),l.all dh=true→Lib.parseUintM 18446744073709551615 a l = .ok u→u=bo a l
 | [],a,u,_,h=>by
  cases h
  rfl
 | c :: l,a,u,h,hp=>by
  simp only[List.all_cons,Bool.and_eq_true] at h
  have hd:48≤c.toNat∧c.toNat≤57:=by simpa[dh] using h.1
  unfold Lib.parseUintM at hp
  rw[if_pos hd] at hp
  split at hp
  ·cases hp
  ·split at hp
   ·cases hp
   ·exact J5 l _ u h.2 hp
theorem GZ {w:ac} (hne:g8 w≠[]) (hd:(g8 w).all dh=true) (h:(cc w).2=true):(cc w).1=jJ w:=by
 unfold cc at h ⊢
 cases hp:Lib.parseIntB 64 w with
 | range=>rw[hp] at h; cases h
 | ok v =>
  simp only
  cases w with
  | nil=>exact absurd rfl hne
  | cons c l =>
   unfold Lib.parseIntB at hp
   simp only at hp
   unfold jJ
   by_cases hc:c=45
   ·subst hc
    have hm:g8 (45 :: l)=l:=rfl
    have hg:J3 (45 :: l)=true:=rfl
    rw[hm] at hne hd
    have h45:(45:UInt8).toNat=45:=rfl
    rw[if_pos (.inr h45)] at hp
    unfold Lib.parseUintB at hp
    rw[if_neg hne] at hp
    cases hu:Lib.parseUintM (2 ^ 64 - 1) 0 l with
    | range=>rw[hu] at hp; cases hp
    | ok u =>
     rw[hu] at hp
     have:=J5 l 0 u hd hu
     simp only at hp
     split at hp
     ·cases hp
     ·split at hp
      ·cases hp
      ·cases hp
       rw[hm,hg,this]
       rfl
    | _=>rw[hu] at hp; cases hp
   ·have hm:g8 (c :: l)=c :: l:=if_neg (by simpa using hc)
    have hg:J3 (c :: l)=false:=decide_eq_false (by simpa using hc)
    rw[hm] at hd
    have hcd:48≤c.toNat∧c.toNat≤57:=by
     simp only[List.all_cons,Bool.and_eq_true] at hd
     simpa[dh] using hd.1
    rw[if_neg (by omega)] at hp
    unfold Lib.parseUintB at hp
    rw[if_neg (by simp)] at hp
    cases hu:Lib.parseUintM (2 ^ 64 - 1) 0 (c :: l) with
    | range=>rw[hu] at hp; cases hp
    | ok u =>
     rw[hu] at hp
     have:=J5 (c :: l) 0 u hd hu
     simp only at hp
     split at hp
     ·cases hp
     ·split at hp
      ·cases hp
      ·rw[if_neg (by omega)] at hp
       cases hp
       rw[hm,hg,this]
       rfl
    | _=>rw[hu] at hp; cases hp
 | _=>rw[hp] at h; cases h
end Go.Proofs.YtddiiceaindlhaaGreatDoor.Abs
set_option linter.unusedVariables false
set_option linter.unusedSimpArgs false
set_option linter.unusedSectionVars false
namespace Go.Proofs.YtddiiceaindlhaaGreatDoor.Abs
open Go
theorem La {w:ac} (h:fH w=true):cc w=(jJ w,true):=by
 unfold fH iw at h
 simp only[Bool.and_eq_true,decide_eq_true_eq] at h
 obtain⟨hne,hd,hv⟩:=h
 have hp2:(cc w).2=true:=by
  cases w with
  | nil=>exact absurd rfl hne
  | cons c l =>
   by_cases hc:c=45
   ·subst hc
    have hm:g8 (45 :: l)=l:=rfl
    rw[hm] at hne hd hv
    have h45:(45:UInt8).toNat=45:=rfl
    have hu:Lib.parseUintM (2 ^ 64 - 1) 0 l = .ok (bo 0 l):=H3 l 0 hd (by omega)
    have:Lib.parseIntB 64 (45 :: l) = .ok (-((bo 0 l:Nat):Int)):=by
     unfold Lib.parseIntB
     simp only
     rw[if_pos (.inr h45)]
     unfold Lib.parseUintB
     rw[if_neg hne,hu]
     simp only
     rw[if_neg (by omega),if_neg (by omega)]
     rfl
    unfold cc
    rw[this]
   ·have hm:g8 (c :: l)=c :: l:=if_neg (by simpa using hc)
    rw[hm] at hd hv
    have hcd:48≤c.toNat∧c.toNat≤57:=by
     have hd':=hd
     simp only[List.all_cons,Bool.and_eq_true] at hd'
     simpa[dh] using hd'.1
    have hu:Lib.parseUintM (2 ^ 64 - 1) 0 (c :: l) = .ok (bo 0 (c :: l)):=H3 (c :: l) 0 hd (by omega)
    have:Lib.parseIntB 64 (c :: l) = .ok ((bo 0 (c :: l):Nat):Int):=by
     unfold Lib.parseIntB
     simp only
     rw[if_neg (by omega)]
     unfold Lib.parseUintB
     rw[if_neg (by simp),hu]
     simp only
     rw[if_neg (by omega),if_neg (by omega),if_neg (by omega)]
    unfold cc
    rw[this]
 exact Prod.ext (GZ hne hd hp2) hp2
theorem Tu {w:ac} (h:fH w=false) (h1:(cc w).2=true) (h2:(decide (g8 w≠[]) && (g8 w).all dh)=true):aN (vN (cc w).1)=false:=by
 simp only[Bool.and_eq_true,decide_eq_true_eq] at h2
 rw[GZ h2.1 h2.2 h1]
 unfold jJ
 rw[J2]
 unfold fH iw at h
 rw[decide_eq_true h2.1,h2.2] at h
 simpa using h
theorem xQ {w:ac} (h:fH w=true) : -1000000000000000≤jJ w∧jJ w≤1000000000000000:=by
 unfold fH iw at h
 simp only[Bool.and_eq_true,decide_eq_true_eq] at h
 unfold jJ p4
 split <;> omega
theorem xR {x:ByteArray} (hx:x.size≤9223372036854775807) : ∃(t:ac) (b:Bool),sY x=some ((ba t,b,()),())∧pJ x=some ((ba t,b,()),())∧t.length≤200:=by
 obtain⟨w,rfl⟩ : ∃ s,x=ba s:=⟨lb x,(f0 x).symm⟩
 rw[KV,vc,mA hx,rV hx]
 simp only[Option.bind_some]
 have e0 : ∀ x:ac,(ByteArray.toList (ba x) == ByteArray.toList (⟨#[]⟩:ByteArray))=decide (x=[]):=fun x=>cT (b:=[])
 rw[e0]
 cases hp:(plain (ba w) && decide (((ba w).size:Int)≤200)) with
 | false =>
  have hw:w≠[]:=by
   rintro rfl
   exact absurd hp (by decide)
  rw[decide_eq_false hw]
  exact⟨[],false,rfl,rfl,by simp⟩
 | true =>
  have hp':=hp
  rw[Bool.and_eq_true,decide_eq_true_eq,aq] at hp'
  have hl:w.length≤200:=by omega
  simp only[Bool.not_true,Bool.false_eq_true,if_false]
  by_cases hw:w=[]
  ·subst hw
   exact⟨[],true,rfl,rfl,by simp⟩
  ·rw[aE hw,aE hw]
   have hcut:cl (ba w) (⟨#[61]⟩:ByteArray)=_:=qV w [61] (by omega)
   rw[hcut]
   simp only[Option.bind_some,Cx]
   cases w with
   | nil=>exact absurd rfl hw
   | cons c l =>
    rw[o0,Cz c 61 (n:=61) rfl]
    by_cases hc:c=61
    ·subst hc
     have hll:l.length≤200:=by rw[List.length_cons] at hl; omega
     simp only[List.head?_cons,decide_true,if_true,List.length_singleton,List.drop_succ_cons,List.drop_zero]
     rw[show(1:Int)=((1:Nat):Int) from rfl,fy (by simp)]
     simp only[List.drop_succ_cons,List.drop_zero]
     obtain⟨f,b,r1,r2,r3,r4⟩:=H4 (x:=ba l) (by rw[aq]; omega)
     rw[r1,r2]
     simp only[Option.bind_some]
     have hsm:f.length≤10000000∧(∀ x∈f,x.2.2.1.2.2.1.size≤9223372036854775807) ∧ ∀ x∈f,x.2.2.2.2.2.1.length≤10000000:=by
      cases b with
      | false=>rw[r4 rfl]; simp
      | true =>
       have ho:=r3 rfl
       have hs:dx f=true:=by
        unfold dx
        rw[List.all_eq_true]
        intro y hy
        obtain⟨i,hi⟩:=List.getElem?_of_mem hy
        exact(l4 ho i y hi).1
       have ho':=ho
       unfold fp at ho'
       rw[Bool.and_eq_true] at ho'
       have:=bd.1 ho'.1
       exact⟨by omega,FK (tC hs),FL (tC hs)⟩
     obtain⟨t,t1,t2,t3⟩:=FN hsm.1 hsm.2.1 hsm.2.2
     rw[t2,zx,t1]
     simp only[Option.bind_some]
     rw[show(⟨#[61]⟩:ByteArray)=ba [61] from rfl,bm (by simp only[List.length_singleton]; omega),e0,aq]
     cases b with
     | false =>
      simp only[Bool.not_false,if_true]
      refine⟨[],false,?_,rfl,by simp⟩
      by_cases ht:t=[] <;> simp[ht]
     | true =>
      simp only[Bool.not_true,Bool.false_eq_true,if_false]
      by_cases ht:t=[]
      ·refine⟨[],false,?_,?_,by simp⟩ <;> simp[ht]
      ·rw[wr (by omega) (by omega)]
       by_cases h2:t.length < 200
       ·refine⟨61 :: t,true,?_,?_,by rw[List.length_cons]; omega⟩
        ·rw[decide_eq_false ht,decide_eq_true (show(t.length:Int) < 200 by omega)]
         rfl
        ·rw[aE ht,aE (by omega),bm (by simp only[List.length_singleton]; omega)]
         rfl
       ·refine⟨[],false,?_,?_,by simp⟩
        ·rw[decide_eq_false ht,decide_eq_false (show ¬(t.length:Int) < 200 by omega)]
         rfl
        ·rw[aE ht,aI (by omega)]
    ·have hnc : ¬(some c=some (61:UInt8)):=by simpa using hc
     simp only[List.head?_cons,hnc,decide_false,Bool.false_eq_true,if_false,hc]
     generalize hwd:(c :: l:ac)=w at *
     have hsz:(ba w).size=w.length:=aq w
     rw[vj (by omega)]
     obtain⟨v,n1,n2⟩:=zR hw (by omega)
     rw[n1,J4 (by omega),ri (by omega),rh (by omega)]
     simp only[Option.bind_some,D2]
     rw[vf (by show eS.size≤_; decide)]
     simp only[Option.bind_some]
     have tail : ∃(t:ac) (b:Bool),(if(br w).2=true then(some ((ba w,true,()),(())):Option ((ByteArray×Bool×Unit)×Unit)) else(if((ByteArray.size (ba w):Int) == 200)=true then(some (((⟨#[]⟩:ByteArray),false,()),(()))) else(cats (⟨#[39]⟩:ByteArray) (ba w) fun y2=>(some ((y2,true,()),(()))))))=some ((ba t,b,()),())
       ∧ (if(!(br w).2)=true then((io (2,0,ba w,())).bind fun z7=>(if(decide ((ByteArray.size z7.1.1:Int) > 200))=true then(some (((⟨#[]⟩:ByteArray),false,()),(()))) else(some ((z7.1.1,true,()),(()))))) else((io (br w).1).bind fun z8=>(if(decide ((ByteArray.size z8.1.1:Int) > 200))=true then(some (((⟨#[]⟩:ByteArray),false,()),(()))) else(some ((z8.1.1,true,()),(()))))))=some ((ba t,b,()),())∧t.length≤200:=by
      cases hr:(br w).2 with
      | true =>
       obtain⟨k1,k2⟩:=pU hr
       refine⟨w,true,rfl,?_,hl⟩
       simp only[Bool.not_true,Bool.false_eq_true,if_false]
       rw[gk (jn k1),if_pos k1,k2]
       simp only[Option.bind_some]
       rw[aE (by rw[hsz]; omega)]
      | false =>
       simp only[Bool.not_false,Bool.false_eq_true,if_false,if_true]
       have hov:aN (2,0,ba w,())=true:=by
        unfold aN
        rw[if_pos rfl]
        simp only[decide_true,Bool.true_and]
        exact hp
       have htx:cL (2,0,ba w,())=ba (39 :: w):=by
        show(⟨#[39]⟩:ByteArray)++ba w=_
        rw[show(⟨#[39]⟩:ByteArray)=ba [39] from rfl,mC]
        rfl
       rw[gk (jn hov),if_pos hov,htx,M5 (by omega),show(⟨#[39]⟩:ByteArray)=ba [39] from rfl,mC]
       simp only[Option.bind_some,aq,List.length_cons]
       by_cases h2:w.length=200
       ·rw[if_pos (by simp[h2]),aI (by omega)]
        exact⟨[],false,rfl,rfl,by simp⟩
       ·rw[if_neg (by simp only[beq_iff_eq]; omega),aE (by omega)]
        exact⟨39 :: w,true,rfl,rfl,by rw[List.length_cons]; omega⟩
     cases ho:fH w with
     | true =>
      have hpv:=La ho
      have hrg:=xQ ho
      have hdg:(decide (g8 w≠[]) && (g8 w).all dh)=true:=by
       unfold fH iw at ho
       simp only[Bool.and_eq_true] at ho ⊢
       exact⟨ho.1,ho.2.1⟩
      have hok:aN (vN (jJ w))=true:=by
       rw[QT]
       exact bd.2 hrg
      have hit:=oX (n:=jJ w) (by omega) (by omega)
      rw[n2 ho,hpv,hdg]
      simp only[if_true,hok]
      rw[vg (by omega) (by omega),gk (jn hok),if_pos hok]
      refine⟨lb (dp (jJ w)),true,?_,?_,by rw[pP]; omega⟩
      ·rw[f0]; rfl
      ·rw[f0]; rfl
     | false =>
      obtain⟨t,b,s1,s2,s3⟩:=tail
      refine⟨t,b,?_,?_,s3⟩
      ·cases h1:(cc w).2 with
       | false=>simpa using s1
       | true =>
        cases h2:(decide (g8 w≠[]) && (g8 w).all dh) with
        | false=>simpa using s1
        | true =>
         rw[Tu ho h1 h2]
         simpa using s1
      ·simpa using s2
end Go.Proofs.YtddiiceaindlhaaGreatDoor.Abs
set_option linter.unusedVariables false
set_option linter.unusedSimpArgs false
set_option linter.unusedSectionVars false
namespace Go.Proofs.YtddiiceaindlhaaGreatDoor.Abs
open Go
noncomputable def eL (x:ByteArray):ByteArray×Bool:=if h:x.size≤9223372036854775807 then(ba (xR h).choose,(xR h).choose_spec.choose) else(eS,false)
theorem qW {x:ByteArray} (h:x.size≤9223372036854775807):sY x=some (((eL x).1,(eL x).2,()),())∧pJ x=some (((eL x).1,(eL x).2,()),())∧(eL x).1.size≤200:=by
 have hs:=(xR h).choose_spec.choose_spec
 unfold eL
 rw[dif_pos h]
 exact⟨hs.1,hs.2.1,by rw[aq]; exact hs.2.2⟩
noncomputable def dH (x:ByteArray):Bool:=(eL x).2 && !decide (x=eS) && decide ((eL x).1=x)
theorem zS {x:ByteArray} (h:x.size≤9223372036854775807):uj x=some ((dH x,()),()):=by
 rw[Jp,(qW h).1]
 simp only[Option.bind_some,ol]
 unfold dH
 cases (eL x).2 <;> by_cases hx:x=eS <;> simp[hx]
def bw (a b:ai):Bool:=decide (a.2.1 < b.2.1) || (decide (a.2.1=b.2.1) && decide (a.1 < b.1))
theorem BX (a b:ai):xn a b=some ((bw a b,()),()):=by
 rw[KP]
 unfold bw
 by_cases h1:a.2.1 < b.2.1
 ·simp[h1]
 ·by_cases h2:a.2.1=b.2.1 <;> simp[h1,h2]
theorem Ex (a b:ai) : ∃ k:Int,sV a b=some ((k,()),())∧(k < 0↔bw a b=true):=by
 rw[DR,GJ,GJ]
 simp only[Option.bind_some]
 rw[QB (by simp)]
 refine⟨_,rfl,?_⟩
 unfold bw
 by_cases h1:a.2.1 < b.2.1
 ·simp[Cv,h1]
 ·by_cases h2:b.2.1 < a.2.1
  ·have h3 : ¬a.2.1=b.2.1:=by omega
   simp[Cv,h1,h2,h3]
  ·have h3:a.2.1=b.2.1:=by omega
   by_cases h4:a.1 < b.1
   ·simp[Cv,h1,h2,h3,h4]
   ·by_cases h5:b.1 < a.1
    ·simp[Cv,h1,h2,h3,h4,h5]
    ·simp[Cv,h1,h2,h3,h4,h5]
noncomputable def zT:Option ab→List ab→Bool
 | _,[]=>true
 | o,c :: l=>ao c.1 && dH c.2.1 && (match o with | none=>true | some p=>bw p.1 c.1) && zT (some c) l
noncomputable def aH (s:List ab):Bool:=zT none s && decide (s.length≤120)
section
variable {s:List ab} (hs : ∀ c∈s,c.2.1.size≤9223372036854775807) (hl:s.length≤1000000000)
include hs hl
theorem yy : ∀(ys pre:List ab),s=pre++ys→mz s s (s.length:Int) (pre.length:Int)=some ((zT pre.getLast? ys && decide (s.length≤120),()),())
 | [],pre,h=>by
  rw[wv,aE (ct h)]
  simp only[zT,Bool.true_and]
  congr 3
  rw[Bool.eq_iff_iff,decide_eq_true_eq,decide_eq_true_eq]
  omega
 | y :: ys,pre,h=>by
  have hy:=hs y (by rw[h]; simp)
  have ih:=yy ys (pre++[y]) (aZ h)
  rw[List.getLast?_append] at ih
  simp only[List.getLast?_singleton,Option.or_some,Option.some_or] at ih
  rw[wv,aI (cK h),bU h,nL]
  simp only[Option.bind_some,zT]
  cases hr:ao y.1 with
  | false=>simp
  | true =>
   simp only[Bool.not_true,Bool.false_eq_true,if_false,Bool.true_and]
   rcases List.eq_nil_or_concat pre with hp | ⟨q,z,hp⟩
   ·subst hp
    rw[aE (by simp),zS hy]
    simp only[Option.bind_some,List.getLast?_nil,Bool.and_true]
    cases dH y.2.1 with
    | false=>simp
    | true =>
     simp only[Bool.not_true,Bool.false_eq_true,if_false,Bool.true_and]
     rw[bk (pre:=[]) h (by omega)]
     exact ih
   ·rw[List.concat_eq_append] at hp
    subst hp
    have hz:s=q++z :: (y :: ys):=by rw[h]; simp
    have hql:((q++[z]).length:Int) - 1=(q.length:Int):=by simp
    have hqs:q.length < s.length:=by rw[hz]; simp
    rw[aI (by simp),hql,wr (by omega) (by omega),bU hz]
    obtain⟨k,k1,k2⟩:=Ex z.1 y.1
    rw[k1]
    simp only[Option.bind_some,List.getLast?_append,List.getLast?_singleton,Option.some_or]
    by_cases hk:k < 0
    ·rw[aE (by omega),zS hy,k2.1 hk]
     simp only[Option.bind_some,Bool.and_true]
     cases dH y.2.1 with
     | false=>simp
     | true =>
      simp only[Bool.not_true,Bool.false_eq_true,if_false,Bool.true_and]
      rw[bk h (by omega)]
      exact ih
    ·have:bw z.1 y.1=false:=by
      rw[Bool.eq_false_iff]
      exact fun e=>hk (k2.2 e)
     rw[aI (by omega),this]
     simp
theorem mE:m9 s=some ((aH s,()),()):=by
 rw[KW]
 exact yy hs hl s [] rfl
end
end Go.Proofs.YtddiiceaindlhaaGreatDoor.Abs
set_option linter.unusedVariables false
set_option linter.unusedSimpArgs false
set_option linter.unusedSectionVars false
namespace Go.Proofs.YtddiiceaindlhaaGreatDoor.Abs
open Go
theorem No {x:ByteArray}:dH x=((eL x).2 && !decide (x=eS) && decide ((eL x).1=x)):=rfl
section
variable {s:List ab} (hs : ∀ c∈s,c.2.1.size≤9223372036854775807) (hl:s.length≤1000000000000)
include hs hl
theorem yz : ∀(ys pre:List ab),s=pre++ys→my s (pre.length:Int)=some ((zT pre.getLast? ys,()),())
 | [],pre,h=>by
  rw[wu,aE (ct h)]
  simp only[zT]
 | y :: ys,pre,h=>by
  have hy:=hs y (by rw[h]; simp)
  have ih:=yz ys (pre++[y]) (aZ h)
  rw[List.getLast?_append] at ih
  simp only[List.getLast?_singleton,Option.or_some,Option.some_or] at ih
  rw[wu,aI (cK h),bU h,(qW hy).2.1]
  simp only[Option.bind_some]
  rw[bU h,gG]
  simp only[Option.bind_some,zT,bU h,ol,No]
  cases hr:ao y.1 with
  | false=>simp
  | true =>
   cases hi:(eL y.2.1).2 with
   | false=>simp
   | true =>
    by_cases he:y.2.1=eS
    ·simp[he]
    ·by_cases hq:(eL y.2.1).1=y.2.1
     ·rcases List.eq_nil_or_concat pre with hp | ⟨q,z,hp⟩
      ·subst hp
       rw[bk (pre:=[]) h (by omega)]
       simp[he,hq]
       exact ih
      ·rw[List.concat_eq_append] at hp
       subst hp
       have hz:s=q++z :: (y :: ys):=by rw[h]; simp
       have hql:((q++[z]).length:Int) - 1=(q.length:Int):=by simp
       have hqs:q.length < s.length:=by rw[hz]; simp
       rw[hql,wr (by omega) (by omega),bU hz,BX,bk h (by omega)]
       simp only[Option.bind_some,List.getLast?_append,List.getLast?_singleton,Option.some_or]
       rw[ih]
       cases ha:bw z.1 y.1 <;> simp[he,hq]
     ·simp[he,hq]
theorem vm:sT s=some ((aH s,()),()):=by
 rw[KQ]
 by_cases h:s.length≤120
 ·rw[aE (by simp; omega)]
  have:=yz hs hl s [] rfl
  simp only[List.length_nil,Int.ofNat_zero,List.getLast?_nil] at this
  rw[this]
  simp[aH,h]
 ·rw[aI (by simp; omega)]
  simp[aH,h]
end
end Go.Proofs.YtddiiceaindlhaaGreatDoor.Abs
set_option linter.unusedVariables false
set_option linter.unusedSimpArgs false
set_option linter.unusedSectionVars false
namespace Go.Proofs.YtddiiceaindlhaaGreatDoor.Abs
open Go
theorem o9 {a b:ai}:(bC an a b=true)=(a=b):=propext (nK rfl)
noncomputable def bp (r:ai):List ab→ByteArray
 | []=>eS
 | c :: cs=>if c.1=r then c.2.1 else bp r cs
theorem wH {s:List ab} {r:ai} (hl:s.length≤1000000000000) : ∀(ys pre:List ab),s=pre++ys→oS s (s.length:Int) (pre.length:Int) r.1 r.2.1=some ((bp r ys,()),())
 | [],pre,h=>by
  rw[uy,aE (ct h)]
  rfl
 | y :: ys,pre,h=>by
  have ih:=wH (r:=r) hl ys (pre++[y]) (aZ h)
  rw[uy,aI (cK h),bU h,bk h (by omega),ih]
  show(if bC an y.1 r=true then _ else _)=_
  by_cases e:y.1=r
  ·rw[if_pos (by rw[o9]; exact e),bp,if_pos e]
  ·rw[if_neg (by rw[o9]; exact e),bp,if_neg e]
theorem tD {s:List ab} {r:ai} (hl:s.length≤1000000000000):qF s r=some ((bp r s,()),()):=by
 rw[Jw]
 exact wH hl s [] rfl
end Go.Proofs.YtddiiceaindlhaaGreatDoor.Abs
set_option linter.unusedVariables false
set_option linter.unusedSimpArgs false
set_option linter.unusedSectionVars false
namespace Go.Proofs.YtddiiceaindlhaaGreatDoor.Abs
open Go
theorem J6 {α:Type} {lt:α→α→Bool} (hi : ∀ x,lt x x=false) (ht : ∀ x y z,lt x y=true→lt y z=true→lt x z=true) : ∀ {l m:List α},(l.Pairwise fun a b=>lt a b=true)→(m.Pairwise fun a b=>lt a b=true)→(∀ x,x∈l↔x∈m)→l=m
 | [],[],_,_,_=>rfl
 | [],y :: m,_,_,h=>by have:=(h y).2 (by simp); cases this
 | x :: l,[],_,_,h=>by have:=(h x).1 (by simp); cases this
 | x :: l,y :: m,hl,hm,h=>by
  rw[List.pairwise_cons] at hl hm
  have hxy:x=y:=by
   rcases List.mem_cons.1 ((h x).1 (by simp)) with e | hx
   ·exact e
   ·rcases List.mem_cons.1 ((h y).2 (by simp)) with e | hy
    ·exact e.symm
    ·have:=ht _ _ _ (hl.1 y hy) (hm.1 x hx)
     rw[hi] at this
     cases this
  subst hxy
  congr 1
  refine J6 hi ht hl.2 hm.2 fun z=>⟨fun hz => ?_,fun hz => ?_⟩
  ·rcases List.mem_cons.1 ((h z).1 (List.mem_cons_of_mem _ hz)) with e | hz'
   ·subst e
    have:=hl.1 z hz
    rw[hi] at this
    cases this
   ·exact hz'
  ·rcases List.mem_cons.1 ((h z).2 (List.mem_cons_of_mem _ hz)) with e | hz'
   ·subst e
    have:=hm.1 z hz
    rw[hi] at this
    cases this
   ·exact hz'
theorem jo {a b:ai}:bw a b=true↔a.2.1 < b.2.1∨(a.2.1=b.2.1∧a.1 < b.1):=by
 unfold bw
 simp
theorem pc (a:ai):bw a a=false:=by
 rw[Bool.eq_false_iff]
 intro h
 have:=jo.1 h
 omega
theorem gJ {a b c:ai} (h:bw a b=true) (k:bw b c=true):bw a c=true:=by
 have:=jo.1 h
 have:=jo.1 k
 rw[jo]
 omega
theorem Sg {a b:ai} (h1:a.1=b.1) (h2:a.2.1=b.2.1):a=b:=Prod.ext h1 (Prod.ext h2 rfl)
theorem qq (a b:ai):bw a b=true∨a=b∨bw b a=true:=by
 rw[jo,jo]
 by_cases h:a=b
 ·exact .inr (.inl h)
 ·by_cases h2:a.2.1=b.2.1
  ·have:a.1≠b.1:=fun e=>h (Sg e h2)
   omega
  ·omega
theorem tE {a b:ai} (h:bw a b=true):a≠b:=by
 rintro rfl
 rw[pc] at h
 cases h
def dN (s:List ab):Prop:=s.Pairwise fun a b=>bw a.1 b.1=true
theorem LX : ∀ {s:List ab} {o:Option ab},zT o s=true↔(∀ p,o=some p → ∀ c∈s,bw p.1 c.1=true)∧dN s ∧ ∀ c∈s,ao c.1=true∧dH c.2.1=true
 | [],o=>by simp[zT,dN]
 | c :: l,o=>by
  have ih:=LX (s:=l) (o:=some c)
  simp only[zT,Bool.and_eq_true,ih]
  constructor
  ·rintro⟨⟨⟨h1,h2⟩,h3⟩,h4,h5,h6⟩
   refine⟨?_,List.pairwise_cons.2 ⟨fun d hd=>h4 c rfl d hd,h5⟩,?_⟩
   ·rintro p rfl d hd
    have h3:bw p.1 c.1=true:=h3
    rcases List.mem_cons.1 hd with rfl | hd
    ·exact h3
    ·exact gJ h3 (h4 c rfl d hd)
   ·intro d hd
    rcases List.mem_cons.1 hd with rfl | hd
    ·exact⟨h1,h2⟩
    ·exact h6 d hd
  ·rintro⟨h1,h2,h3⟩
   have h2:=List.pairwise_cons.1 h2
   refine⟨⟨h3 c (by simp),?_⟩,?_,h2.2,fun d hd=>h3 d (List.mem_cons_of_mem _ hd)⟩
   ·cases o with
    | none=>rfl
    | some p=>exact h1 p rfl c (by simp)
   ·rintro p hp d hd
    cases hp
    exact h2.1 d hd
theorem dA {s:List ab}:aH s=true↔dN s∧(∀ c∈s,ao c.1=true∧dH c.2.1=true)∧s.length≤120:=by
 unfold aH
 rw[Bool.and_eq_true,LX,decide_eq_true_eq]
 constructor
 ·rintro⟨⟨_,h1,h2⟩,h3⟩
  exact⟨h1,h2,h3⟩
 ·rintro⟨h1,h2,h3⟩
  exact⟨⟨(fun p hp=>by cases hp),h1,h2⟩,h3⟩
theorem zU {x:ByteArray}:dH x=true↔(eL x).2=true∧x≠eS∧(eL x).1=x:=by
 unfold dH
 simp[Bool.and_eq_true,and_assoc]
theorem CF {x:ByteArray} (h:dH x=true):x≠eS:=(zU.1 h).2.1
theorem G0 (x:ByteArray):(eL x).1.size≤200:=by
 by_cases h:x.size≤9223372036854775807
 ·exact(qW h).2.2
 ·unfold eL
  rw[dif_neg h]
  decide
theorem Np {x:ByteArray} (h:dH x=true):x.size≤200:=by
 have:=G0 x
 rw[(zU.1 h).2.2] at this
 exact this
def hZ (r:ai) (s:List ab):List ab:=s.filter fun c => !decide (c.1=r)
def p5 (r:ai) (x:ByteArray):List ab→List ab
 | []=>[(r,x,())]
 | c :: l=>if bw c.1 r=true then c :: p5 r x l else(r,x,()) :: hZ r (c :: l)
noncomputable def cU (s:List ab) (r:ai) (x:ByteArray):List ab:=if x=eS then hZ r s else p5 r x s
theorem FO {r:ai} {s:List ab} {c:ab}:c∈hZ r s↔c∈s∧c.1≠r:=by simp[hZ]
theorem LY {r:ai} {s:List ab} (h:dN s):dN (hZ r s):=List.Pairwise.filter _ h
theorem A0 (r:ai) (s:List ab):(hZ r s).length≤s.length:=List.length_filter_le _ _
theorem Pj {r:ai} {s:List ab} (h : ∀ c∈s,c.1≠r):hZ r s=s:=by
 unfold hZ
 rw[List.filter_eq_self]
 intro c hc
 simp[h c hc]
theorem vn {r:ai} {c:ab} {l:List ab} (h:c.1≠r):hZ r (c :: l)=c :: hZ r l:=by simp[hZ,h]
theorem BZ {r:ai} {c:ab} {l:List ab} (h:c.1=r):hZ r (c :: l)=hZ r l:=by simp[hZ,h]
theorem tF {r:ai} {x:ByteArray} : ∀ s:List ab,(p5 r x s).Perm (hZ r s++[(r,x,())])
 | []=>by simp[p5,hZ]
 | c :: l=>by
  unfold p5
  by_cases h:bw c.1 r=true
  ·rw[if_pos h,vn (tE h)]
   exact(tF l).cons c
  ·rw[if_neg h]
   exact(List.perm_append_singleton _ _).symm
theorem LZ {r:ai} {x:ByteArray} {s:List ab} {c:ab}:c∈p5 r x s↔(c∈s∧c.1≠r)∨c=(r,x,()):=by
 rw[(tF s).mem_iff,List.mem_append,FO,List.mem_singleton]
theorem Si (r:ai) (x:ByteArray) (s:List ab):(p5 r x s).length≤s.length+1:=by
 rw[(tF s).length_eq,List.length_append,List.length_singleton]
 have:=A0 r s
 omega
theorem FP {r:ai} {x:ByteArray} : ∀ {s:List ab},dN s→dN (p5 r x s)
 | [],_=>by simp[p5,dN]
 | c :: l,h=>by
  have h':=List.pairwise_cons.1 h
  unfold p5
  by_cases k:bw c.1 r=true
  ·rw[if_pos k]
   refine List.pairwise_cons.2 ⟨fun d hd => ?_,FP h'.2⟩
   rcases LZ.1 hd with⟨hd,_⟩ | rfl
   ·exact h'.1 d hd
   ·exact k
  ·rw[if_neg k]
   refine List.pairwise_cons.2 ⟨fun d hd => ?_,LY h⟩
   obtain⟨hd,hn⟩:=FO.1 hd
   show bw r d.1=true
   rcases qq c.1 r with e | e | e
   ·exact absurd e k
   ·rcases List.mem_cons.1 hd with rfl | hd
    ·exact absurd e hn
    ·rw[←e]
     exact h'.1 d hd
   ·rcases List.mem_cons.1 hd with rfl | hd
    ·exact e
    ·exact gJ e (h'.1 d hd)
theorem wI {r:ai} {x:ByteArray} {s:List ab} (h:dN s):dN (cU s r x):=by
 unfold cU
 split
 ·exact LY h
 ·exact FP h
theorem Sj (s:List ab) (r:ai) (x:ByteArray):(cU s r x).length≤s.length+1:=by
 unfold cU
 split
 ·have:=A0 r s
  omega
 ·exact Si r x s
theorem nN {r:ai} {x:ByteArray} {s:List ab} {c:ab}:c∈cU s r x↔(c∈s∧c.1≠r)∨(x≠eS∧c=(r,x,())):=by
 unfold cU
 by_cases h:x=eS
 ·rw[if_pos h,FO]
  simp[h]
 ·rw[if_neg h,LZ]
  simp[h]
theorem ng {q:ai} : ∀ {s:List ab},(∀ c∈s,c.1≠q)→bp q s=eS
 | [],_=>rfl
 | c :: l,h=>by
  rw[bp,if_neg (h c (by simp))]
  exact ng fun d hd=>h d (List.mem_cons_of_mem _ hd)
theorem iy : ∀ {s:List ab} {c:ab},dN s→c∈s→bp c.1 s=c.2.1
 | d :: l,c,h,hc=>by
  have h':=List.pairwise_cons.1 h
  rw[bp]
  rcases List.mem_cons.1 hc with rfl | hc
  ·rw[if_pos rfl]
  ·rw[if_neg (tE (h'.1 c hc))]
   exact iy h'.2 hc
theorem nh {q:ai} {s:List ab} (h:dN s):(∃ c∈s,c.1=q∧c.2.1=bp q s)∨((∀ c∈s,c.1≠q)∧bp q s=eS):=by
 by_cases k : ∃ c∈s,c.1=q
 ·obtain⟨c,hc,rfl⟩:=k
  exact .inl ⟨c,hc,rfl,(iy h hc).symm⟩
 ·have k' : ∀ c∈s,c.1≠q:=fun c hc e=>k ⟨c,hc,e⟩
  exact .inr ⟨k',ng k'⟩
theorem Pk {q r:ai} {x:ByteArray} {s:List ab} (h:dN s):bp q (cU s r x)=if q=r then x else bp q s:=by
 have hs:=wI (r:=r) (x:=x) h
 by_cases e:q=r
 ·subst e
  rw[if_pos rfl]
  by_cases hx:x=eS
  ·rw[ng,hx]
   intro c hc
   rcases nN.1 hc with⟨_,hn⟩ | ⟨hn,_⟩
   ·exact hn
   ·exact absurd hx hn
  ·exact iy (c:=(q,x,())) hs (nN.2 (.inr ⟨hx,rfl⟩))
 ·rw[if_neg e]
  rcases nh (q:=q) h with⟨c,hc,rfl,hv⟩ | ⟨hn,hv⟩
  ·rw[iy hs (nN.2 (.inl ⟨hc,e⟩)),hv]
  ·rw[hv,ng]
   intro c hc
   rcases nN.1 hc with⟨hc,_⟩ | ⟨_,rfl⟩
   ·exact hn c hc
   ·exact fun k=>e k.symm
theorem Pl {s t:List ab} (hs:dN s) (ht:dN t) (ns : ∀ c∈s,c.2.1≠eS) (nt : ∀ c∈t,c.2.1≠eS) (h : ∀ q,bp q s=bp q t):s=t:=by
 refine J6 (lt:=fun a b:ab=>bw a.1 b.1) (fun x=>pc _) (fun x y z h k=>gJ h k) hs ht fun c=>⟨fun hc => ?_,fun hc => ?_⟩
 ·have h1:=iy hs hc
  rw[h] at h1
  rcases nh (q:=c.1) ht with⟨d,hd,e1,e2⟩ | ⟨_,e⟩
  ·have:d=c:=Prod.ext e1 (Prod.ext (e2.trans h1) rfl)
   rw[←this]
   exact hd
  ·exact absurd (h1.symm.trans e) (ns c hc)
 ·have h1:=iy ht hc
  rw[←h] at h1
  rcases nh (q:=c.1) hs with⟨d,hd,e1,e2⟩ | ⟨_,e⟩
  ·have:d=c:=Prod.ext e1 (Prod.ext (e2.trans h1) rfl)
   rw[←this]
   exact hd
  ·exact absurd (h1.symm.trans e) (nt c hc)
theorem xS {s:List ab} (h:aH s=true) : ∀ c∈s,c.2.1≠eS:=fun c hc=>CF ((dA.1 h).2.1 c hc).2
theorem eB {s:List ab} (h:aH s=true):dN s:=(dA.1 h).1
theorem gK {s:List ab} (h:aH s=true):s.length≤120:=(dA.1 h).2.2
theorem pd {s:List ab} (h:aH s=true) : ∀ c∈s,c.2.1.size≤200:=fun c hc=>Np ((dA.1 h).2.1 c hc).2
theorem B0 {s:List ab} {r:ai} {x:ByteArray} (h:aH s=true) (hr:ao r=true) (hx:x≠eS→dH x=true) (hl:(cU s r x).length≤120):aH (cU s r x)=true:=by
 rw[dA] at h ⊢
 refine⟨wI h.1,?_,hl⟩
 intro c hc
 rcases nN.1 hc with⟨hc,_⟩ | ⟨hn,rfl⟩
 ·exact h.2.1 c hc
 ·exact⟨hr,hx hn⟩
end Go.Proofs.YtddiiceaindlhaaGreatDoor.Abs
set_option linter.unusedVariables false
set_option linter.unusedSimpArgs false
set_option linter.unusedSectionVars false
namespace Go.Proofs.YtddiiceaindlhaaGreatDoor.Abs
open Go
def CG (l:List ai):Prop:=l.Pairwise fun a b=>bw a b=true
def p6 (r:ai):List ai→List ai
 | []=>[r]
 | c :: l=>if bw c r=true then c :: p6 r l else if c=r then c :: l else r :: c :: l
def rj (l:List ai):List ai:=l.foldr p6 []
theorem CH {r q:ai} : ∀ {l:List ai},q∈p6 r l↔q=r∨q∈l
 | []=>by simp[p6]
 | c :: l=>by
  unfold p6
  by_cases h:bw c r=true
  ·rw[if_pos h,List.mem_cons,CH (l:=l),List.mem_cons]
   constructor
   ·rintro(h | h | h)
    ·exact .inr (.inl h)
    ·exact .inl h
    ·exact .inr (.inr h)
   ·rintro(h | h | h)
    ·exact .inr (.inl h)
    ·exact .inl h
    ·exact .inr (.inr h)
  ·rw[if_neg h]
   by_cases e:c=r
   ·rw[if_pos e,List.mem_cons]
    constructor
    ·rintro(h | h)
     ·exact .inl (h.trans e)
     ·exact .inr (.inr h)
    ·rintro(h | h | h)
     ·exact .inl (h.trans e.symm)
     ·exact .inl h
     ·exact .inr h
   ·rw[if_neg e,List.mem_cons]
theorem J7 {r:ai} : ∀ {l:List ai},CG l→CG (p6 r l)
 | [],_=>by simp[p6,CG]
 | c :: l,h=>by
  have h':=List.pairwise_cons.1 h
  unfold p6
  by_cases k:bw c r=true
  ·rw[if_pos k]
   refine List.pairwise_cons.2 ⟨fun d hd => ?_,J7 h'.2⟩
   rcases CH.1 hd with rfl | hd
   ·exact k
   ·exact h'.1 d hd
  ·rw[if_neg k]
   by_cases e:c=r
   ·rw[if_pos e]
    exact h
   ·rw[if_neg e]
    have hr:bw r c=true:=by
     rcases qq c r with x | x | x
     ·exact absurd x k
     ·exact absurd x e
     ·exact x
    refine List.pairwise_cons.2 ⟨fun d hd => ?_,h⟩
    rcases List.mem_cons.1 hd with rfl | hd
    ·exact hr
    ·exact gJ hr (h'.1 d hd)
theorem J8 : ∀ l:List ai,CG (rj l)
 | []=>List.Pairwise.nil
 | c :: l=>J7 (J8 l)
theorem CI {q:ai} : ∀ {l:List ai},q∈rj l↔q∈l
 | []=>Iff.rfl
 | c :: l=>by
  show q∈p6 c (rj l)↔_
  rw[CH,CI (l:=l),List.mem_cons]
theorem QV {l m:List ai} (hl:CG l) (hm:CG m) (h : ∀ q,q∈l↔q∈m):l=m:=J6 (lt:=bw) pc (fun _ _ _=>gJ) hl hm h
theorem CJ : ∀ l:List ai,(rj l).length≤l.length
 | []=>Nat.le_refl _
 | c :: l=>by
  have ih:=CJ l
  have : ∀ m:List ai,(p6 c m).length≤m.length+1:=by
   intro m
   induction m with
   | nil=>simp[p6]
   | cons d m ih =>
    unfold p6
    split
    ·simp only[List.length_cons]
     omega
    ·split
     ·simp only[List.length_cons]
      omega
     ·simp only[List.length_cons]
      omega
  have:=this (rj l)
  show(p6 c (rj l)).length≤_
  simp only[List.length_cons]
  omega
def QW (L M:List ab) (c:dk):Prop:=c.2.1=bp c.1 L∧c.2.2.1=bp c.1 M∧c.2.1≠c.2.2.1
noncomputable def Rx (a b:List ab) (q:ai):dk:=(q,bp q a,bp q b,())
noncomputable def fR (a:List ab):List ai:=a.map fun c=>c.1
noncomputable def nO (a b:List ab):List dk:=((rj (fR a++fR b)).map (Rx a b)).filter fun c => !decide (c.2.1=c.2.2.1)
theorem QX {a:List ab} {q:ai}:q∈fR a ↔ ∃ c∈a,c.1=q:=by simp[fR]
theorem B1 {a:List ab} {q:ai} (h:bp q a≠eS):q∈fR a:=by
 rw[QX]
 apply Classical.byContradiction
 intro hn
 exact h (ng fun c hc e=>hn ⟨c,hc,e⟩)
theorem A1 {a b:List ab} {c:dk}:c∈nO a b↔QW a b c:=by
 unfold nO QW
 rw[List.mem_filter,List.mem_map]
 constructor
 ·rintro⟨⟨q,_,rfl⟩,h⟩
  exact⟨rfl,rfl,by simpa using h⟩
 ·rintro⟨h1,h2,h3⟩
  refine⟨⟨c.1,?_,?_⟩,by simpa using h3⟩
  ·rw[CI,List.mem_append]
   by_cases e:bp c.1 a=eS
   ·exact .inr (B1 fun e2=>h3 (by rw[h1,h2,e,e2]))
   ·exact .inl (B1 e)
  ·exact Prod.ext rfl (Prod.ext h1.symm (Prod.ext h2.symm rfl))
theorem Sk (a b:List ab):(nO a b).length≤a.length+b.length:=by
 unfold nO
 refine Nat.le_trans (List.length_filter_le _ _) ?_
 rw[List.length_map]
 refine Nat.le_trans (CJ _) ?_
 simp[fR]
end Go.Proofs.YtddiiceaindlhaaGreatDoor.Abs
set_option linter.unusedVariables false
set_option linter.unusedSimpArgs false
set_option linter.unusedSectionVars false
namespace Go.Proofs.YtddiiceaindlhaaGreatDoor.Abs
open Go
def G1 (s:List ab):Prop:=dN s ∧ ∀ c∈s,ao c.1=true∧dH c.2.1=true
theorem Ey {s:List ab} (h:aH s=true):G1 s:=⟨(dA.1 h).1,(dA.1 h).2.1⟩
theorem J9 {s:List ab} (h:G1 s) (hl:s.length≤120):aH s=true:=dA.2 ⟨h.1,h.2,hl⟩
theorem Tv {s:List ab} (h:G1 s) : ∀ c∈s,c.2.1≠eS:=fun c hc=>CF (h.2 c hc).2
theorem Sl {s:List ab} {r:ai} {x:ByteArray} (h:G1 s) (hr:ao r=true) (hx:x≠eS→dH x=true):G1 (cU s r x):=by
 refine⟨wI h.1,?_⟩
 intro c hc
 rcases nN.1 hc with⟨hc,_⟩ | ⟨hn,rfl⟩
 ·exact h.2 c hc
 ·exact⟨hr,hx hn⟩
theorem FQ {s:List ab} {q:ai} (h:G1 s) (k:bp q s≠eS):ao q=true∧dH (bp q s)=true:=by
 rcases nh (q:=q) h.1 with⟨c,hc,rfl,hv⟩ | ⟨_,e⟩
 ·rw[←hv]
  exact h.2 c hc
 ·exact absurd e k
theorem Ka {a b:List ab} (ha:aH a=true) (hb:aH b=true):(nO a b).length≤240:=by
 have:=Sk a b
 have:=gK ha
 have:=gK hb
 omega
end Go.Proofs.YtddiiceaindlhaaGreatDoor.Abs
set_option linter.unusedVariables false
set_option linter.unusedSimpArgs false
set_option linter.unusedSectionVars false
namespace Go.Proofs.YtddiiceaindlhaaGreatDoor.Abs
open Go
section
variable {α R:Type}
def jh (p:α→Bool):List α→Nat→Int
 | [],_ => -1
 | c :: l,n=>if p c=true then(n:Int) else jh p l (n+1)
theorem xT {p:α→Bool} {s:List α} {d:α} {P:Int→Option R} {F:Int→Option R} (hl:s.length≤1000000000000)
  (hP : ∀ j,P j=if decide (j < (s.length:Int))=true then ix s j d fun y=>if p y=true then F j else P (IntKind.i64.wrap (j+1)) else F (-1)) : ∀(ys pre:List α),s=pre++ys→P (pre.length:Int)=F (jh p ys pre.length)
 | [],pre,h=>by
  rw[hP,aE (ct h)]
  rfl
 | y :: ys,pre,h=>by
  have ih:=xT hl hP ys (pre++[y]) (aZ h)
  rw[hP,aI (cK h),bU h,bk h (by omega),ih,List.length_append,List.length_singleton]
  show _=F (if p y=true then(pre.length:Int) else jh p ys (pre.length+1))
  by_cases hp:p y=true
  ·rw[if_pos hp,if_pos hp]
  ·rw[if_neg hp,if_neg hp]
theorem A2 {p:α→Bool} : ∀ {l:List α} {n:Nat},jh p l n = -1 → ∀ c∈l,p c=false
 | [],_,_,c,h=>by cases h
 | x :: l,n,e,c,h=>by
  unfold jh at e
  by_cases hx:p x=true
  ·rw[if_pos hx] at e
   omega
  ·rw[if_neg hx] at e
   rcases List.mem_cons.1 h with rfl | h
   ·simpa using hx
   ·exact A2 e c h
theorem A3 {p:α→Bool} : ∀ {l:List α} {n:Nat},jh p l n ≠ -1 → ∃ pre x ys,l=pre++x :: ys∧p x=true∧(∀ c∈pre,p c=false)∧jh p l n=((n+pre.length:Nat):Int)
 | [],_,e=>absurd rfl e
 | x :: l,n,e=>by
  unfold jh at e ⊢
  by_cases hx:p x=true
  ·rw[if_pos hx]
   exact⟨[],x,l,rfl,hx,(fun c h=>by cases h),rfl⟩
  ·rw[if_neg hx] at e ⊢
   obtain⟨pre,z,ys,h1,h2,h3,h4⟩:=A3 e
   refine⟨x :: pre,z,ys,by rw[h1]; rfl,h2,?_,?_⟩
   ·intro c hc
    rcases List.mem_cons.1 hc with rfl | hc
    ·simpa using hx
    ·exact h3 c hc
   ·rw[h4,List.length_cons]
    congr 1
    omega
theorem tG {p:α→Bool} {d:α} {P:Int→Int→List α→Option R} {F:List α→Option R}
  (hP : ∀ i j xs,P i j xs=if decide (j < (xs.length:Int))=true then inb xs j (if(!p (List.getD xs (Int.toNat j) d))=true then inb xs i (P (IntKind.i64.wrap (i+1)) (IntKind.i64.wrap (j+1)) (List.set xs (Int.toNat i) (List.getD xs (Int.toNat j) d))) else P i (IntKind.i64.wrap (j+1)) xs)
   else(if(0:Int)≤i then(if i < (xs.length:Int) then Bs (List.take (Int.toNat i) xs++List.replicate (xs.length - Int.toNat i) d) i F else none) else none)) :
  ∀(ys kept junk:List α),kept.length+junk.length+ys.length≤1000000000000→junk≠[]→P (kept.length:Int) ((kept.length+junk.length:Nat):Int) (kept++junk++ys)=F (kept++ys.filter fun c => !p c)
 | [],kept,junk,hl,hj=>by
  have hjl:=List.length_pos_iff.2 hj
  rw[hP,aE (by simp only[List.length_append,List.length_nil]; omega),if_pos (by omega),if_pos (by simp only[List.length_append,List.length_nil]; omega)]
  simp only[List.append_nil,Int.toNat_natCast,List.filter_nil]
  rw[OO (by omega) (by simp only[List.length_append,List.length_take,List.length_replicate]; omega)]
  simp
 | y :: ys,kept,junk,hl,hj=>by
  have hjl:=List.length_pos_iff.2 hj
  rw[List.length_cons] at hl
  have e1:kept++junk++y :: ys=(kept++junk)++y :: ys:=rfl
  have hlen:((kept++junk).length:Int)=((kept.length+junk.length:Nat):Int):=by simp
  have hg:List.getD (kept++junk++y :: ys) (Int.toNat ((kept.length+junk.length:Nat):Int)) d=y:=by
   rw[←hlen]
   exact j9
  rw[hP,aI (by rw[List.length_append,List.length_append,List.length_cons]; omega),jg (by omega) (by rw[List.length_append,List.length_append,List.length_cons]; omega),hg]
  by_cases hp:p y=true
  ·rw[hp,if_neg (by decide),wr (by omega) (by omega)]
   have ih:=tG hP ys kept (junk++[y]) (by simp only[List.length_append,List.length_singleton]; omega) (by simp)
   have e2:kept++(junk++[y])++ys=kept++junk++y :: ys:=by simp
   have e3:((kept.length+(junk++[y]).length:Nat):Int)=((kept.length+junk.length:Nat):Int)+1:=by simp; omega
   rw[e2,e3] at ih
   rw[ih,List.filter_cons_of_neg (by simp[hp])]
  ·have hp':p y=false:=by simpa using hp
   rw[hp',if_pos (show(!false)=true from rfl),jg (by omega) (by rw[List.length_append,List.length_append,List.length_cons]; omega),wr (by omega) (by omega),wr (by omega) (by omega)]
   obtain⟨z,zs,rfl⟩ : ∃ z zs,junk=z :: zs:=by
    cases junk with
    | nil=>exact absurd rfl hj
    | cons z zs=>exact⟨z,zs,rfl⟩
   have ih:=tG hP ys (kept++[y]) (zs++[y]) (by simp only[List.length_append,List.length_nil,List.length_cons] at hl ⊢; omega) (by simp)
   have e2:List.set (kept++z :: zs++y :: ys) (Int.toNat (kept.length:Int)) y=kept++[y]++(zs++[y])++ys:=by simp
   have e3:(((kept++[y]).length+(zs++[y]).length:Nat):Int)=((kept.length+(z :: zs).length:Nat):Int)+1:=by simp; omega
   have e4:((kept++[y]).length:Int)=(kept.length:Int)+1:=by simp
   rw[e3,e4] at ih
   rw[e2,ih,List.filter_cons_of_pos (by simp[hp'])]
   simp
end
theorem qr {s:List ab} (hl:s.length≤1000000000):fi s=some ((s,()),()):=by
 rw[xC]
 unfold fk
 simp only[gQ?,dite_true,Option.bind_some]
 exact if_pos (by omega)
theorem Sm {s:List ab} {r:ai} (hl:s.length≤1000000000) : ∀(ys pre:List ab),s=pre++ys→b8 s (s.length:Int) (pre.length:Int) r=some ((jh (fun c=>bC an c.1 r) ys pre.length,()),(r,())) :=
 xT (p:=fun c:ab=>bC an c.1 r) (d:=ag.dflt) (F:=fun j=>some ((j,()),(r,()))) (s:=s) (P:=fun j=>b8 s (s.length:Int) j r) (by omega) fun j=>by
  rw[jT]
  simp only[wl,Option.bind_some]
theorem QY {s:List ab} {r:ai} (hl:s.length≤1000000000):eG s r.1 r.2.1=some ((jh (fun c=>bC an c.1 r) s 0,()),(r,())):=by
 rw[lU,kt]
 cases s with
 | nil=>rfl
 | cons c l =>
  have h2:=Sm (r:=r) hl l [c] rfl
  rw[aI (by rw[List.length_cons]; omega)]
  have hix : ∀ {β:Type} {F:ab→Option β},ix (c :: l) 0 ag.dflt F=F c:=fun {β F}=>bU (pre:=[]) (ys:=l) rfl
  rw[hix,HJ,Option.bind_some]
  show(if bC an c.1 r=true then _ else _)=_
  unfold jh
  by_cases h:bC an c.1 r=true
  ·rw[if_pos h,if_pos h]
   rfl
  ·rw[if_neg h,if_neg h]
   exact h2
theorem Tw (r:ai):(fun c:ab => !bC an c.1 r)=fun c => !decide (c.1=r):=by
 funext c
 congr 1
 rw[Bool.eq_iff_iff,decide_eq_true_eq,o9]
theorem QZ {s:List ab} {r:ai} (hl:s.length≤1000000000):dW s r.1 r.2.1=some ((hZ r s,()),(r,())):=by
 rw[ko,QY hl,Option.bind_some]
 dsimp only
 by_cases h:jh (fun c:ab=>bC an c.1 r) s 0 = -1
 ·rw[h,if_pos (by rfl)]
  have:=A2 h
  rw[Pj fun c hc=>by
   have:=this c hc
   intro e
   rw[o9.mpr e] at this
   cases this]
 ·obtain⟨pre,x,ys,h1,h2,h3,h4⟩:=A3 h
  rw[if_neg (by simpa using h),h4,Nat.zero_add]
  have hlen:pre.length+1+ys.length≤1000000000:=by rw[h1] at hl; simp at hl; omega
  have hd:=tG (p:=fun c:ab=>bC an c.1 r) (d:=ag.dflt) (P:=fun i j xs=>bS i j xs r) (F:=fun l=>some ((l,()),(r,()))) (fun i j xs=>by
   rw[jj]
   simp only[wl,Option.bind_some]) ys pre [x] (by simp only[List.length_singleton]; omega) (by simp)
  rw[wr (by omega) (by omega)]
  have e1:pre++[x]++ys=s:=by rw[h1]; simp
  have e2:((pre.length+[x].length:Nat):Int)=(pre.length:Int)+1:=by simp
  rw[e1,e2] at hd
  refine hd.trans ?_
  have e3:hZ r s=pre++ys.filter fun c => !bC an c.1 r:=by
   rw[Tw r]
   unfold hZ
   rw[h1,List.filter_append,List.filter_cons_of_neg (by simp[o9.mp h2])]
   congr 1
   rw[List.filter_eq_self]
   intro c hc
   have:=h3 c hc
   simp only[Bool.not_eq_true',decide_eq_false_iff_not]
   intro e
   rw[o9.mpr e] at this
   cases this
  rw[e3]
def Pm (a b:ab):Bool:=bw a.1 b.1
theorem Nq:Sort.SWO (α:=ai) bw where
 irrefl:=pc
 trans _ _ _ h k:=gJ h k
 ntrans x y z h k:=by
  rw[Bool.eq_false_iff] at h k ⊢
  intro hz
  rcases qq x y with e | e | e
  ·exact h e
  ·subst e
   exact k hz
  ·exact k (gJ e hz)
theorem Nr:Sort.SWO (α:=ag.den) Pm where
 irrefl x:=Nq.irrefl x.1
 trans x y z h k:=Nq.trans x.1 y.1 z.1 h k
 ntrans x y z h k:=Nq.ntrans x.1 y.1 z.1 h k
theorem Pn {s:List ab} (hl:s.length≤1000000000):eu s=some ((),(db (α:=ag.den) Pm s,())):=by
 rw[lk]
 unfold dI
 simp only[gQ?,dite_true,Option.bind_some,if_true]
 exact if_pos (by omega)
theorem Ns {r:ai} {x:ByteArray} {s:List ab} (h:dN s):db (α:=ag.den) Pm (hZ r s++[(r,x,())])=p5 r x s :=
 uU ((mn Nr _).trans (tF s).symm) (q8 Nr _) (FP h)
theorem Lb {s:List ab} {r:ai} {x:ByteArray} (h:dN s) (hl:s.length≤1000000):Cl s r x=some ((cU s r x,()),()):=by
 have hd:=A0 r s
 rw[KX,qr (by omega),Option.bind_some]
 dsimp only
 rw[QZ (by omega),Option.bind_some]
 dsimp only
 unfold cU
 by_cases hx:x=eS
 ·subst hx
  rw[if_pos rfl,if_neg (by simp[ol])]
 ·rw[if_neg hx,show(ByteArray.toList x == ByteArray.toList (⟨#[]⟩:ByteArray))=decide (x=eS) from ol,decide_eq_false hx,if_pos (by rfl),bG (by simp only[List.length_singleton]; omega),Pn (by simp only[List.length_append,List.length_singleton]; omega),Option.bind_some]
  dsimp only
  rw[Ns h]
section
variable {s:List ab} {r:ai} {x:ByteArray} (hl:s.length≤1000000)
include hl
theorem mF : ∀(ys pre acc:List ab),s=pre++ys→acc.length+ys.length≤1000010→gD s x true (pre.length:Int) r.1 r.2.1 acc=some ((acc++hZ r ys,()),())
 | [],pre,acc,h,ha=>by
  rw[oV,aE (ct h)]
  simp[hZ]
 | y :: ys,pre,acc,h,ha=>by
  rw[List.length_cons] at ha
  rw[oV,aI (cK h)]
  simp only[Bool.not_true,Bool.false_eq_true,if_false,bU h]
  show(if(!bC an y.1 r)=true then _ else _)=_
  by_cases e:y.1=r
  ·rw[o9.mpr e,if_neg (by decide),bk h (by omega),mF ys _ acc (aZ h) (by omega),BZ e]
  ·have e':bC an y.1 r=false:=by rw[Bool.eq_false_iff,ne_eq,o9]; exact e
   rw[e',if_pos (by rfl),bG (by simp only[List.length_singleton]; omega),bk h (by omega),mF ys _ _ (aZ h) (by simp only[List.length_append,List.length_singleton]; omega),vn e]
   simp
theorem zV : ∀(ys pre acc:List ab),s=pre++ys→acc.length+ys.length≤1000000→gD s x false (pre.length:Int) r.1 r.2.1 acc=some ((acc++p5 r x ys,()),())
 | [],pre,acc,h,ha=>by
  rw[oV,aE (ct h),if_pos (by rfl),bG (by simp only[List.length_singleton,List.length_nil] at ha ⊢; omega)]
  rfl
 | y :: ys,pre,acc,h,ha=>by
  rw[List.length_cons] at ha
  rw[oV,aI (cK h),if_pos (by rfl)]
  simp only[bU h,BX,Option.bind_some]
  show(if(!bw y.1 r)=true then _ else _)=_
  unfold p5
  cases k:bw y.1 r with
  | true =>
   have e:=tE k
   have e':bC an y.1 r=false:=by rw[Bool.eq_false_iff,ne_eq,o9]; exact e
   rw[if_neg (by decide),if_pos rfl]
   show(if(!bC an y.1 r)=true then _ else _)=_
   rw[e',if_pos (by rfl),bG (by simp only[List.length_singleton]; omega),bk h (by omega),zV ys _ _ (aZ h) (by simp only[List.length_append,List.length_singleton]; omega)]
   simp
  | false =>
   rw[if_pos (by decide),if_neg (by decide),bG (by simp only[List.length_singleton]; omega)]
   show(if(!bC an y.1 r)=true then _ else _)=_
   by_cases e:y.1=r
   ·rw[o9.mpr e,if_neg (by decide),bk h (by omega),mF hl ys _ _ (aZ h) (by simp only[List.length_append,List.length_singleton]; omega),BZ e]
    simp
   ·have e':bC an y.1 r=false:=by rw[Bool.eq_false_iff,ne_eq,o9]; exact e
    rw[e',if_pos (by rfl),bG (by simp only[List.length_append,List.length_singleton]; omega),bk h (by omega),mF hl ys _ _ (aZ h) (by simp only[List.length_append,List.length_singleton]; omega),vn e]
    simp
theorem G2:v8 s r x=some ((cU s r x,()),()):=by
 rw[OD]
 unfold cU
 by_cases hx:x=eS
 ·subst hx
  rw[if_pos rfl,show(ByteArray.toList eS == ByteArray.toList (⟨#[]⟩:ByteArray))=decide (eS=eS) from ol,decide_eq_true rfl]
  exact mF hl s [] [] rfl (by simp only[List.length_nil]; omega)
 ·rw[if_neg hx]
  have:(ByteArray.toList x == ByteArray.toList (⟨#[]⟩:ByteArray))=false:=by
   rw[show(ByteArray.toList x == ByteArray.toList (⟨#[]⟩:ByteArray))=decide (x=eS) from ol,decide_eq_false hx]
  rw[this]
  exact zV hl s [] [] rfl (by simp only[List.length_nil]; omega)
end
end Go.Proofs.YtddiiceaindlhaaGreatDoor.Abs
set_option linter.unusedVariables false
set_option linter.unusedSimpArgs false
set_option linter.unusedSectionVars false
namespace Go.Proofs.YtddiiceaindlhaaGreatDoor.Abs
open Go
theorem Sn:eL eS=(eS,true):=by
 have h:=(qW (x:=eS) (by decide)).2.1
 rw[vc,mA (by decide)] at h
 have hp:(plain eS && decide ((eS.size:Int)≤200))=true:=by decide +kernel
 have he:(ByteArray.toList eS == ByteArray.toList (⟨#[]⟩:ByteArray))=decide (eS=eS):=ol
 rw[hp,he,decide_eq_true rfl] at h
 simp only[Option.bind_some,Bool.not_true,Bool.false_eq_true,if_false,if_true,Option.some.injEq,Prod.mk.injEq,and_true] at h
 exact Prod.ext h.1.symm h.2.symm
theorem Uk {a b:ByteArray}:(ByteArray.toList a == ByteArray.toList b)=decide (a=b):=ol
section
variable {l:List dk} (hl:l.length≤360) (hsz : ∀ c∈l,c.2.2.1.size≤9223372036854775807)
include hl hsz
end
section
variable {s:List ab} {l:List dk} (hs : ∀ c∈s,c.2.1.size≤9223372036854775807) (hsl:s.length≤1000000000) (hsz : ∀ c∈l,c.2.2.1.size≤9223372036854775807)
include hs hsl hsz
end
end Go.Proofs.YtddiiceaindlhaaGreatDoor.Abs
