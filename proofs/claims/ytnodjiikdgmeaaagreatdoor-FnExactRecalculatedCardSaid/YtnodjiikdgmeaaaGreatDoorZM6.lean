/- Plain laws: places that are read. -/
import Derived.Test.YtnodjiikdgmeaaaGreatDoorZM5
import Derived.Lib.IndexBytes
set_option linter.unusedVariables false
set_option linter.unusedSimpArgs false
set_option linter.unusedSectionVars false
namespace Go.Proofs.YtnodjiikdgmeaaaGreatDoor.Abs
open Go
theorem wd {w:ak} (hw:w.length≤281474976710656):gU (ba w) 10 64=some (((bX w).1,(bX w).2,()),()):=by
 rw[zU]
 show(if(ba w).size≤281474976710656∧(10:Int)=10∧(64:Int)=64 then some (((bX (lb (ba w))).1,(bX (lb (ba w))).2,()),()) else none)=_
 rw[if_pos ⟨by rw[aN]; exact hw,rfl,rfl⟩,eu]
theorem UV : ∀ r:Fin 10,(bX [UInt8.ofNat (48+r.val)]).1=(r.val:Int):=by decide +kernel
theorem UW : ∀ r:Fin 100,(bX [UInt8.ofNat (48+r.val / 10),UInt8.ofNat (48+r.val % 10)]).1=(r.val:Int):=by decide +kernel
theorem RO {r:Nat} (h:r < 100):(bX (Lib.decDigits r)).1=(r:Int):=by
 by_cases h1:r < 10
 ·rw[Lib.decDigits_one h1]
  exact UV ⟨r,h1⟩
 ·rw[Lib.decDigits_two h1 h]
  exact UW ⟨r,h⟩
theorem VO:(fun c=>([65,66,67,68,69,70,71,72,73,74,75,76,77,78,79,80,81,82,83,84,85,86,87,88,89,90]:ak).contains c)=fg:=funext fun c=>DN (p:=fun c=>([65,66,67,68,69,70,71,72,73,74,75,76,77,78,79,80,81,82,83,84,85,86,87,88,89,90]:ak).contains c=fg c) (by decide +kernel) c
def bW (w:ak):Bool×ak:=(([36]:ak).isPrefixOf w,if([36]:ak).isPrefixOf w=true then w.drop 1 else w)
theorem H5 (w:ak):qm (bW w).1++(bW w).2=w:=by
 unfold bW qm
 cases w with
 | nil=>rfl
 | cons c l =>
  by_cases h:c=36
  ·subst h
   simp
  ·have:([36]:ak).isPrefixOf (c :: l)=false:=by rw[fW]; simp[h]
   simp[this]
theorem K2 {b:Bool} {w:ak} (h:w.head? ≠ some 36):bW (qm b++w)=(b,w):=by
 unfold bW qm
 cases b with
 | true=>simp
 | false =>
  cases w with
  | nil=>rfl
  | cons c l =>
   have h':c≠36:=fun e=>h (by rw[e]; rfl)
   have:([36]:ak).isPrefixOf (c :: l)=false:=by rw[fW]; simp[h']
   simp[this]
theorem K3 (w:ak):(bW w).2.length≤w.length:=by
 unfold bW
 split <;> simp
def pz (w:ak):bS:=((((jX ((bW w).2.takeWhile fg):Nat):Int),(bX (bW ((bW w).2.dropWhile fg)).2).1,()),(bW w).1,(bW ((bW w).2.dropWhile fg)).1,())
theorem H6 (p:UInt8→Bool) (l:ak):(l.dropWhile p).length≤l.length:=(A9 p l).2.2
theorem VP {w:ak} (hw:w.length≤9223372036854775807):cc (ba w) (⟨#[36]⟩:ByteArray)=some ((ba (bW w).2,(bW w).1,()),()):=rI w [36] hw
theorem K4 {w:ak} (hw:w.length≤281474976710656) :
  gm (ba w)=some ((if ca (pz w).1=true∧mv (pz w)=w then pz w else p0,decide (ca (pz w).1=true∧mv (pz w)=w),()),()):=by
 have l1:=K3 w
 have l2:=H6 fg (bW w).2
 have l3:=K3 ((bW w).2.dropWhile fg)
 obtain⟨d1,d2,d3⟩:=A9 fg (bW w).2
 rw[IR,VP (by omega)]
 simp only[Option.bind_some]
 rw[wa _ _ (by decide +kernel),VO]
 simp only[Option.bind_some,aN]
 rw[wr (by omega) (by omega),show((bW w).2.length:Int) - (((bW w).2.dropWhile fg).length:Int)=(((bW w).2.length - ((bW w).2.dropWhile fg).length:Nat):Int) by omega,Fy (by omega),d1,MR]
 simp only[Option.bind_some]
 rw[fN (by omega),d2,VP (by omega)]
 simp only[Option.bind_some]
 rw[wd (by omega)]
 simp only[Option.bind_some,rC,ne]
 have e:pz w=((((jX ((bW w).2.takeWhile fg):Nat):Int),(bX (bW ((bW w).2.dropWhile fg)).2).1,()),(bW w).1,(bW ((bW w).2.dropWhile fg)).1,()):=rfl
 rw[←e]
 have e1:(((jX ((bW w).2.takeWhile fg):Nat):Int),(bX (bW ((bW w).2.dropWhile fg)).2).1,())=(pz w).1:=rfl
 rw[e1]
 cases hr:ca (pz w).1 with
 | false=>simp
 | true =>
  simp only[Bool.not_true,Bool.false_eq_true,if_false,if_true,dD,true_and]
  by_cases hp:mv (pz w)=w
  ·simp[hp]
  ·simp[hp]
theorem NZ : ∀ c:Fin 53,1≤c.val→(gp c.val).all fg=true:=by decide +kernel
theorem Wm {y:UInt8} (h:fg y=true):y≠36:=by
 rintro rfl
 exact absurd h (by decide)
theorem Uw {y:UInt8} (h:dE y=true):y≠36∧fg y=false:=by
 refine⟨?_,?_⟩
 ·rintro rfl
  exact absurd h (by decide)
 ·simp only[dE,fg,Bool.and_eq_true,decide_eq_true_eq,Bool.and_eq_false_iff,decide_eq_false_iff_not] at h ⊢
  omega
theorem FE (u:Nat) : ∃ y l,Lib.decDigits u=y :: l∧dE y=true:=by
 have h:=DP u
 unfold jy at h
 simp only[Bool.and_eq_true,decide_eq_true_eq] at h
 cases hd:Lib.decDigits u with
 | nil=>rw[hd] at h; simp at h
 | cons y l =>
  rw[hd] at h
  refine⟨y,l,rfl,?_⟩
  have:=h.1.1
  simp only[List.all_cons,Bool.and_eq_true] at this
  exact this.1
theorem UX {c:Nat} (h1:1≤c) (h2:c≤52) (x:ak):(gp c++x).head? ≠ some 36:=by
 have h:=NZ ⟨c,by omega⟩ h1
 have hl:=ur c
 simp only at h
 cases hc:gp c with
 | nil=>rw[hc] at hl; simp at hl
 | cons y l =>
  rw[hc] at h
  simp only[List.all_cons,Bool.and_eq_true] at h
  intro e
  simp only[List.cons_append,List.head?_cons,Option.some.injEq] at e
  exact Wm h.1 e
theorem K5 {c r:Nat} (h1:1≤c) (h2:c≤52) (fc fr:Bool):(bW (xK c r fc fr)).1=fc∧(bW (xK c r fc fr)).2.takeWhile fg=gp c∧(bW ((bW (xK c r fc fr)).2.dropWhile fg)).1=fr∧(bW ((bW (xK c r fc fr)).2.dropWhile fg)).2=Lib.decDigits r:=by
 unfold xK
 rw[K2 (UX h1 h2 _)]
 have hu:=List.all_eq_true.1 (NZ ⟨c,by omega⟩ h1)
 simp only at hu ⊢
 obtain⟨y,l,hy,hd⟩:=FE r
 have hn : ∃ z m,qm fr++Lib.decDigits r=z :: m∧fg z=false:=by
  cases fr with
  | true=>exact⟨36,_,rfl,by decide⟩
  | false=>exact⟨y,l,hy,(Uw hd).2⟩
 obtain⟨z,m,hz,hzu⟩:=hn
 have ht:(qm fr++Lib.decDigits r).takeWhile fg=[]:=by rw[hz]; simp[hzu]
 have hdr:(qm fr++Lib.decDigits r).dropWhile fg=qm fr++Lib.decDigits r:=by rw[hz]; simp[hzu]
 rw[List.takeWhile_append_of_pos hu,List.dropWhile_append_of_pos hu,ht,hdr,List.append_nil,K2 (by rw[hy]; simp only[List.head?_cons,ne_eq,Option.some.injEq]; exact(Uw hd).1)]
 simp
theorem Bk {p:bS} (h:ca p.1=true) : ∃(c r:Nat) (fc fr:Bool),p=(((c:Int),(r:Int),()),fc,fr,())∧1≤c∧c≤52∧1≤r∧r≤99:=by
 obtain⟨⟨c,r,u⟩,fc,fr,u'⟩:=p
 obtain⟨⟨h1,h2⟩,h3,h4⟩:=vD.1 h
 simp only at h1 h2 h3 h4
 refine⟨c.toNat,r.toNat,fc,fr,?_,by omega,by omega,by omega,by omega⟩
 rw[Int.toNat_of_nonneg (by omega),Int.toNat_of_nonneg (by omega)]
theorem UY {p:bS} (h:ca p.1=true):pz (mv p)=p:=by
 obtain⟨c,r,fc,fr,rfl,h1,h2,h3,h4⟩:=Bk h
 obtain⟨e1,e2,e3,e4⟩:=K5 (r:=r) h1 h2 fc fr
 show pz (xK c r fc fr)=_
 unfold pz
 rw[e1,e2,e3,e4,FD ⟨c,by omega⟩ h1,RO (by omega)]
def pA (fc:Bool) (ls w2:ak):bS×Bool :=
 if cF (bW w2).2 2=true∧ca (((jX ls:Nat):Int),((bm 0 (bW w2).2:Nat):Int),())=true then(((((jX ls:Nat):Int),((bm 0 (bW w2).2:Nat):Int),()),fc,(bW w2).1,()),true) else(p0,false)
def cG (w:ak):bS×Bool:=pA (bW w).1 ((bW w).2.takeWhile fg) ((bW w).2.dropWhile fg)
theorem PO {fc:Bool} {ls w2:ak} {f1:Bool} {w3:ak} (h:bW w2=(f1,w3)) :
  ((cM (ba w3) 2).bind fun z2=>(if(!z2.1.2.1)=true then(some ((((0,0,()),false,false,()),false,()),(()))) else((d7 (((jX ls:Nat):Int),z2.1.1,())).bind fun z3=>(if(!z3.1.1)=true then(some ((((0,0,()),false,false,()),false,()),(()))) else(some (((((((jX ls:Nat):Int),z2.1.1,()),fc,f1,()):bS),true,()),(())))))))=some (((pA fc ls w2).1,(pA fc ls w2).2,()),()):=by
 have e:=Bi w3 (m:=2) (by decide)
 have e:cM (ba w3) 2=_:=e
 rw[e]
 simp only[Option.bind_some,n6]
 unfold pA
 rw[h]
 cases hr:cF w3 2 with
 | false=>simp
 | true =>
  simp only[Bool.not_true,Bool.false_eq_true,if_false,if_true,true_and]
  cases ho:ca (((jX ls:Nat):Int),((bm 0 w3:Nat):Int),()) with
  | false=>simp
  | true=>simp
theorem Wv {fc:Bool} {w1 pre ys:ak} (h:w1=pre++ys) (hl:w1.length≤9223372036854775807) :
  (Cs (ba w1) (pre.length:Int) fun y7=>((qb y7).bind fun z8=>(iw (ba w1) (pre.length:Int) fun y8=>(if(decide ((ByteArray.size y8:Int) > 0))=true then(dZ y8 0 fun y9=>(if(y9 == 36)=true then(iw y8 1 fun y10=>((cM y10 2).bind fun z9=>(if(!z9.1.2.1)=true then(some ((((0,0,()),false,false,()),false,()),(()))) else((d7 (z8.1.1,z9.1.1,())).bind fun z10=>(if(!z10.1.1)=true then(some ((((0,0,()),false,false,()),false,()),(()))) else(some ((((z8.1.1,z9.1.1,()),fc,true,()),true,()),(())))))))) else((cM y8 2).bind fun z11=>(if(!z11.1.2.1)=true then(some ((((0,0,()),false,false,()),false,()),(()))) else((d7 (z8.1.1,z11.1.1,())).bind fun z12=>(if(!z12.1.1)=true then(some ((((0,0,()),false,false,()),false,()),(()))) else(some ((((z8.1.1,z11.1.1,()),fc,false,()),true,()),(()))))))))) else((cM y8 2).bind fun z13=>(if(!z13.1.2.1)=true then(some ((((0,0,()),false,false,()),false,()),(()))) else((d7 (z8.1.1,z13.1.1,())).bind fun z14=>(if(!z14.1.1)=true then(some ((((0,0,()),false,false,()),false,()),(()))) else(some ((((z8.1.1,z13.1.1,()),fc,false,()),true,()),(())))))))))))
   = (some (((pA fc pre ys).1,(pA fc pre ys).2,()),()):Option ((bS×Bool×Unit)×Unit)):=by
 subst h
 have hle:pre.length≤(pre++ys).length:=by simp
 rw[Fy hle,List.take_left' rfl,MS]
 simp only[Option.bind_some]
 rw[fN hle,List.drop_left' rfl,aN]
 cases ys with
 | nil =>
  rw[aw (by simp)]
  exact PO rfl
 | cons y l =>
  rw[az (by simp),rG]
  by_cases hy:y=36
  ·subst hy
   rw[if_pos (by rfl),show(1:Int)=((1:Nat):Int) from rfl,fN (by simp)]
   exact PO (by unfold bW; rw[fW]; simp)
  ·have h0' : ¬((y.toNat:Int) == 36)=true:=by
    simp only[beq_iff_eq]
    intro e
    apply hy
    apply UInt8.toNat_inj.1
    show y.toNat=36
    omega
   rw[if_neg h0']
   exact PO (by unfold bW; rw[fW]; simp[hy])
theorem kT {fc:Bool} {w1:ak} (hl:w1.length≤9223372036854775806) : ∀(ys pre:ak),w1=pre++ys→im (ba w1) (pre.length:Int) 0 0 false false 0 0 fc false=some (((pA fc (pre++ys.takeWhile fg) (ys.dropWhile fg)).1,(pA fc (pre++ys.takeWhile fg) (ys.dropWhile fg)).2,()),())
 | [],pre,h=>by
  have hlen:w1.length=pre.length:=by rw[h]; simp
  rw[t6,aw (by rw[aN]; omega)]
  simpa using Wv (fc:=fc) h (by omega)
 | y :: ys,pre,h=>by
  have hlen:pre.length < w1.length:=by rw[h]; simp
  rw[t6,az (by rw[aN]; omega),kk h]
  cases hu:fg y with
  | true =>
   have hu':65≤y.toNat∧y.toNat≤90:=by simpa[fg] using hu
   rw[az (by omega),kk h,az (by omega),wr (by omega) (by omega),show(pre.length:Int)+1=((pre++[y]).length:Int) by simp,kT hl ys (pre++[y]) (by rw[h]; simp)]
   simp[hu]
  | false =>
   have hk:=Wv (fc:=fc) h (by omega)
   rw[List.takeWhile_cons_of_neg (by simp[hu]),List.dropWhile_cons_of_neg (by simp[hu]),List.append_nil]
   by_cases h1:65≤y.toNat
   ·have h2 : ¬y.toNat≤90:=by
     intro h2
     simp[fg,h1,h2] at hu
    rw[az (by omega),kk h,aw (by omega)]
    exact hk
   ·rw[aw (by omega)]
    exact hk
theorem rX {w:ak} (hw:w.length≤281474976710656):l9 (ba w)=some (((cG w).1,(cG w).2,()),()):=by
 rw[IA,aN]
 cases w with
 | nil =>
  rw[aw (by simp)]
  exact kT (fc:=false) (w1:=[]) (by simp) [] [] rfl
 | cons y l =>
  rw[List.length_cons] at hw
  rw[az (by simp),rG]
  by_cases hy:y=36
  ·subst hy
   rw[if_pos (by rfl),show(1:Int)=((1:Nat):Int) from rfl,fN (by simp)]
   have:=kT (fc:=true) (w1:=l) (by omega) l [] rfl
   have e:bW (36 :: l)=(true,l):=by unfold bW; rw[fW]; simp
   unfold cG
   rw[e]
   exact this
  ·have h0' : ¬((y.toNat:Int) == 36)=true:=by
    simp only[beq_iff_eq]
    intro e
    apply hy
    apply UInt8.toNat_inj.1
    show y.toNat=36
    omega
   rw[if_neg h0']
   have:=kT (fc:=false) (w1:=y :: l) (by rw[List.length_cons]; omega) (y :: l) [] rfl
   have e:bW (y :: l)=(false,y :: l):=by unfold bW; rw[fW]; simp[hy]
   unfold cG
   rw[e]
   exact this
theorem UZ {w:ak} (h:(cG w).2=true):ca (cG w).1.1=true∧mv (cG w).1=w:=by
 unfold cG pA at h ⊢
 split at h
 ·rename_i hc
  rw[if_pos hc]
  refine⟨hc.2,?_⟩
  obtain⟨⟨k1,k2⟩,k3,k4⟩:=vD.1 hc.2
  simp only at k1 k2 k3 k4
  obtain⟨c1,c2⟩:=RN (w:=(bW w).2.takeWhile fg) (by omega)
  obtain⟨r1,r2⟩:=DU hc.1
  unfold mv xK
  simp only[Int.toNat_natCast]
  rw[c2,r1,H5,List.takeWhile_append_dropWhile,H5]
 ·cases h
theorem RP {p:bS} (h:ca p.1=true):cG (mv p)=(p,true):=by
 obtain⟨c,r,fc,fr,rfl,h1,h2,h3,h4⟩:=Bk h
 obtain⟨e1,e2,e3,e4⟩:=K5 (r:=r) h1 h2 fc fr
 show cG (xK c r fc fr)=_
 unfold cG pA
 rw[e1,e2,e3,e4,FD ⟨c,by omega⟩ h1,uk,if_pos ⟨Bj (sV h4),h⟩]
theorem U0 {w:ak} (h:(cG w).2=false):cG w=(p0,false):=by
 unfold cG pA at h ⊢
 split at h
 ·cases h
 ·rename_i hc
  rw[if_neg hc]
theorem nf {w:ak} (hw:w.length≤281474976710656):gm (ba w)=some (((cG w).1,(cG w).2,()),()):=by
 rw[K4 hw]
 by_cases h:ca (pz w).1=true∧mv (pz w)=w
 ·have:=RP h.1
  rw[h.2] at this
  rw[if_pos h,decide_eq_true h,this]
 ·rw[if_neg h,decide_eq_false h]
  cases h2:(cG w).2 with
  | false=>rw[U0 h2]
  | true =>
   obtain⟨k1,k2⟩:=UZ h2
   refine absurd ?_ h
   have:=UY k1
   rw[k2] at this
   rw[this]
   exact⟨k1,k2⟩
def iP:ak:=[84,82,85,69]
def jz:ak:=[70,65,76,83,69]
def eN (w:ak):Int:=if dp 5=ba w then 5 else if dp 4=ba w then 4 else if dp 3=ba w then 3 else if dp 2=ba w then 2 else if dp 1=ba w then 1 else 0
theorem U1 {w:ak} (h:eN w≠0):dp (eN w)=ba w∧1≤eN w∧eN w≤5:=by
 unfold eN at h ⊢
 split
 ·exact⟨‹_›,by decide,by decide⟩
 ·split
  ·exact⟨‹_›,by decide,by decide⟩
  ·split
   ·exact⟨‹_›,by decide,by decide⟩
   ·split
    ·exact⟨‹_›,by decide,by decide⟩
    ·split
     ·exact⟨‹_›,by decide,by decide⟩
     ·rename_i h1 h2 h3 h4 h5
      simp[h1,h2,h3,h4,h5] at h
theorem H7 : ∀ n:Fin 6,1≤n.val→eN (lb (dp (n.val:Int)))=(n.val:Int):=by decide +kernel
def zM (w:ak):ab :=
 if w=[] then v0 else
 if w.head? = some 39 then vT (ba (w.drop 1)) else
 if w=iP then vB true else
 if w=jz then vB false else
 if w.head? = some 35 then(4,eN w,eS,()) else
 if w.head? = some 45 then(if cF (w.drop 1) 16=true∧bm 0 (w.drop 1)≠0 then vN (-((bm 0 (w.drop 1):Nat):Int)) else(9,0,eS,())) else
 if cF w 16=true then vN ((bm 0 w:Nat):Int) else(9,0,eS,())
def bo (w:ak):ab×Bool:=if an (zM w)=true then(zM w,true) else(v0,false)
theorem N0 {v:ab} (h:v.2.2.1.size≤9223372036854775807) {a b:Int} {c:ByteArray}:aG a b c v.1 v.2.1 v.2.2.1=some ((if an v=true then v else v0,an v,()),()):=by
 rw[Cl,show(v.1,v.2.1,v.2.2.1,())=v from rfl,eP h]
 simp only[Option.bind_some]
 cases an v <;> rfl
theorem ut {w:ak} {n:Int} (h0:0≤n) (h1:n≤5) {a b e N:Int} {c f:ByteArray}:eJ (ba w) n a b c e N f=eJ (ba w) (n+1) a b c e (if dp n=ba w then n else N) f:=by
 rw[sf,az h1,yV h0 h1]
 simp only[Option.bind_some,Ct,decide_eq_true_eq]
 rw[wr (by omega) (by omega)]
 split <;> rfl
theorem VQ {w:ak}:eJ (ba w) 1 0 0 eS 4 0 eS=some ((if an (4,eN w,eS,())=true then(4,eN w,eS,()) else v0,an (4,eN w,eS,()),()),()):=by
 rw[ut (by decide) (by decide),ut (by decide) (by decide),ut (by decide) (by decide),ut (by decide) (by decide),ut (by decide) (by decide),sf,aw (by decide)]
 exact N0 (v:=(4,eN w,eS,())) (by show eS.size≤_; decide)
theorem TH {w:ak} (hw:w.length≤9223372036854775807) {y:UInt8} {l:ak} (h:w=y :: l) :
  (if((y.toNat:Int) == 45)=true then(iw (ba w) 1 fun y5=>((cM y5 16).bind fun z1=>(if(!z1.1.2.1)=true then(some (((0,0,(⟨#[]⟩:ByteArray),()),false,()),(()))) else(if((y.toNat:Int) == 45)=true then(if(z1.1.1 == 0)=true then(some (((0,0,(⟨#[]⟩:ByteArray),()),false,()),(()))) else(if((y.toNat:Int) == 45)=true then(aG 0 0 (⟨#[]⟩:ByteArray) 1 (IntKind.i64.wrap (0 - z1.1.1)) (⟨#[]⟩:ByteArray)) else(aG 0 0 (⟨#[]⟩:ByteArray) 1 z1.1.1 (⟨#[]⟩:ByteArray)))) else(if((y.toNat:Int) == 45)=true then(aG 0 0 (⟨#[]⟩:ByteArray) 1 (IntKind.i64.wrap (0 - z1.1.1)) (⟨#[]⟩:ByteArray)) else(aG 0 0 (⟨#[]⟩:ByteArray) 1 z1.1.1 (⟨#[]⟩:ByteArray)))))))
   else((cM (ba w) 16).bind fun z2=>(if(!z2.1.2.1)=true then(some (((0,0,(⟨#[]⟩:ByteArray),()),false,()),(()))) else(if((y.toNat:Int) == 45)=true then(if(z2.1.1 == 0)=true then(some (((0,0,(⟨#[]⟩:ByteArray),()),false,()),(()))) else(if((y.toNat:Int) == 45)=true then(aG 0 0 (⟨#[]⟩:ByteArray) 1 (IntKind.i64.wrap (0 - z2.1.1)) (⟨#[]⟩:ByteArray)) else(aG 0 0 (⟨#[]⟩:ByteArray) 1 z2.1.1 (⟨#[]⟩:ByteArray)))) else(if((y.toNat:Int) == 45)=true then(aG 0 0 (⟨#[]⟩:ByteArray) 1 (IntKind.i64.wrap (0 - z2.1.1)) (⟨#[]⟩:ByteArray)) else(aG 0 0 (⟨#[]⟩:ByteArray) 1 z2.1.1 (⟨#[]⟩:ByteArray)))))))
   = (let v:ab:=if w.head? = some 45 then(if cF (w.drop 1) 16=true∧bm 0 (w.drop 1)≠0 then vN (-((bm 0 (w.drop 1):Nat):Int)) else(9,0,eS,())) else if cF w 16=true then vN ((bm 0 w:Nat):Int) else(9,0,eS,())
    some ((if an v=true then v else v0,an v,()),())):=by
 have e9:an (9,0,eS,())=false:=by decide
 have hint : ∀ x:ak,cM (ba x) 16=_:=fun x=>Bi x (m:=16) (by decide)
 have hrange : ∀ x:ak,cF x 16=true→bm 0 x < 10 ^ 16:=by
  intro x hx
  unfold cF jy at hx
  simp only[Bool.and_eq_true,decide_eq_true_eq] at hx
  have:=B4 x 0 hx.1.1.1
  exact Nat.lt_of_lt_of_le (by simpa using this) (Nat.pow_le_pow_right (by decide) hx.2)
 subst h
 by_cases hy:y=45
 ·subst hy
  have e:(((45:UInt8).toNat:Int) == 45)=true:=rfl
  simp only[e,if_true,List.head?_cons,List.drop_succ_cons,List.drop_zero]
  rw[show(1:Int)=((1:Nat):Int) from rfl,fN (by simp)]
  simp only[List.drop_succ_cons,List.drop_zero,hint,Option.bind_some]
  cases hr:cF l 16 with
  | false=>simp[e9]; rfl
  | true =>
   have:=hrange l hr
   by_cases h0:bm 0 l=0
   ·simp[h0,e9]; rfl
   ·have h0' : ¬(((bm 0 l:Nat):Int) == 0)=true:=by simp only[beq_iff_eq]; omega
    simp only[Bool.not_true,Bool.false_eq_true,if_false,if_true,h0',ne_eq,h0,not_false_eq_true,and_self]
    rw[wr (by omega) (by omega),show(0:Int) - ((bm 0 l:Nat):Int) = -((bm 0 l:Nat):Int) by omega]
    exact N0 (v:=vN _) (by show eS.size≤_; decide)
 ·have e : ¬((y.toNat:Int) == 45)=true:=by
   simp only[beq_iff_eq]
   intro e
   apply hy
   apply UInt8.toNat_inj.1
   show y.toNat=45
   omega
  have e2 : ¬(some y=some (45:UInt8)):=by simpa using hy
  simp only[e,if_false,List.head?_cons,e2,hint,Option.bind_some]
  cases hr:cF (y :: l) 16 with
  | false=>simp[e9]; rfl
  | true =>
   have:=hrange _ hr
   simp only[Bool.not_true,Bool.false_eq_true,if_false,if_true]
   exact N0 (v:=vN _) (by show eS.size≤_; decide)
theorem rY {w:ak} (hw:w.length≤9223372036854775807):jQ (ba w)=some (((bo w).1,(bo w).2,()),()):=by
 have aM : ∀ v:ab,zM w=v→some ((if an v=true then v else v0,an v,()),())=(some (((bo w).1,(bo w).2,()),()):Option ((ab×Bool×Unit)×Unit)):=by
  intro v hv
  unfold bo
  rw[hv]
  cases an v <;> rfl
 rw[IC]
 have e0:(ByteArray.toList (ba w) == ByteArray.toList (⟨#[]⟩:ByteArray))=decide (w=[]):=dD (b:=[])
 have e1:(ByteArray.toList (ba w) == ByteArray.toList (⟨#[84,82,85,69]⟩:ByteArray))=decide (w=iP):=dD (b:=iP)
 have e2:(ByteArray.toList (ba w) == ByteArray.toList (⟨#[70,65,76,83,69]⟩:ByteArray))=decide (w=jz):=dD (b:=jz)
 rw[e0,e1,e2]
 cases w with
 | nil =>
  rw[az rfl]
  exact aM v0 rfl
 | cons y l =>
  rw[aw (by simp)]
  simp only[rG]
  rw[GJ y 39 (n:=39) rfl,GJ y 35 (n:=35) rfl]
  have hv:=zM.eq_def (y :: l)
  rw[if_neg (by simp)] at hv
  by_cases h39:y=39
  ·rw[az h39,show(1:Int)=((1:Nat):Int) from rfl,fN (by simp)]
   rw[if_pos (by rw[h39]; rfl)] at hv
   rw[List.length_cons] at hw
   exact(N0 (v:=vT (ba ((y :: l).drop 1))) (by show(ba _).size≤_; rw[aN]; simp; omega)).trans (aM _ hv)
  ·rw[aw h39]
   rw[if_neg (by simpa using h39)] at hv
   by_cases ht:(y :: l)=iP
   ·rw[if_pos ht] at hv
    rw[az ht,az ht,az ht]
    exact(N0 (v:=vB true) (by decide)).trans (aM _ hv)
   ·rw[if_neg ht] at hv
    rw[aw ht]
    by_cases hf:(y :: l)=jz
    ·rw[if_pos hf] at hv
     rw[az hf,aw ht]
     exact(N0 (v:=vB false) (by decide)).trans (aM _ hv)
    ·rw[if_neg hf] at hv
     rw[aw hf]
     by_cases h35:y=35
     ·rw[az h35]
      rw[if_pos (by rw[h35]; rfl)] at hv
      exact VQ.trans (aM _ hv)
     ·rw[aw h35]
      rw[if_neg (by simpa using h35)] at hv
      exact(TH hw rfl).trans (aM _ hv)
theorem Bl {n:Int} (h:n < 0):gi n=ba (45 :: Lib.decDigits (-n).toNat):=by
 rw[vz h,show -n=((-n).toNat:Int) by omega,qj,show(⟨#[45]⟩:ByteArray)=ba [45] from rfl,rF]
 congr 2
theorem K6 {u:Nat}:Lib.decDigits u≠[]∧(Lib.decDigits u).head? ≠ some 39∧(Lib.decDigits u).head? ≠ some 35∧(Lib.decDigits u).head? ≠ some 45∧Lib.decDigits u≠iP∧Lib.decDigits u≠jz:=by
 obtain⟨y,l,hy,hd⟩:=FE u
 rw[hy]
 have hn : ∀ c:UInt8,dE c=false→y≠c:=by
  rintro c hc rfl
  rw[hd] at hc
  cases hc
 refine⟨by simp,?_,?_,?_,?_,?_⟩
 ·simpa using hn 39 (by decide)
 ·simpa using hn 35 (by decide)
 ·simpa using hn 45 (by decide)
 ·intro e
  exact hn 84 (by decide) (List.cons.inj e).1
 ·intro e
  exact hn 70 (by decide) (List.cons.inj e).1
theorem PP {u:Nat} (h:u≤1000000000000000):(Lib.decDigits u).length≤16:=Fm 15 u (by omega)
theorem U2 {v:ab} (h:an v=true) (k:v.1≠2):v.2.2.1=eS:=by
 unfold an at h
 rw[if_neg k] at h
 simp only[Bool.and_eq_true,decide_eq_true_eq] at h
 exact h.1
theorem U3 {v:ab} (h:an v=true) (k:v.1=0):v.2.1=0:=by
 unfold an at h
 rw[if_neg (by omega),if_pos k] at h
 simp only[Bool.and_eq_true,decide_eq_true_eq] at h
 exact h.2
theorem U4 {v:ab} (h:an v=true) (k:v.1=2):v.2.1=0:=by
 unfold an at h
 rw[if_pos k] at h
 simp only[Bool.and_eq_true,decide_eq_true_eq] at h
 exact h.1
theorem we {v:ab} (h:an v=true):v=v0∨(∃ n,v=vN n ∧ -1000000000000000≤n∧n≤1000000000000000)∨(∃ s,v=vT s)∨(∃ b,v=vB b) ∨ ∃ n:Fin 6,v=vE (n.val:Int)∧1≤n.val:=by
 obtain⟨k,n,s,u⟩:=v
 have hS:=fun hk=>U2 h hk
 rcases Fp h with hk | hk | hk | hk | hk <;> simp only at hk <;> subst hk
 ·have h0:=U3 h rfl
  have h1:=hS (by show(_:Int)≠2; omega)
  simp only at h0 h1
  subst h0; subst h1
  exact .inl rfl
 ·have h0:=xC h rfl
  have h1:=hS (by show(_:Int)≠2; omega)
  simp only at h0 h1
  subst h1
  exact .inr (.inl ⟨n,rfl,h0.1,h0.2⟩)
 ·have h0:=U4 h rfl
  simp only at h0
  subst h0
  exact .inr (.inr (.inl ⟨s,rfl⟩))
 ·have h0:=GH h rfl
  have h1:=hS (by show(_:Int)≠2; omega)
  simp only at h0 h1
  subst h1
  refine .inr (.inr (.inr (.inl ⟨decide (n=1),?_⟩)))
  have:n=0∨n=1:=by omega
  rcases this with rfl | rfl <;> rfl
 ·have h0:=B3 h rfl
  have h1:=hS (by show(_:Int)≠2; omega)
  simp only at h0 h1
  subst h1
  refine .inr (.inr (.inr (.inr ⟨⟨n.toNat,by omega⟩,?_,by simp; omega⟩)))
  show _=vE ((n.toNat:Nat):Int)
  rw[Int.toNat_of_nonneg (by omega)]
  rfl
theorem TI {v:ab} (h:an v=true):zM (lb (dq v))=v:=by
 rcases we h with rfl | ⟨n,rfl,h0,h1⟩ | ⟨s,rfl⟩ | ⟨b,rfl⟩ | ⟨n,rfl,h0⟩
 ·rfl
 ·have e:dq (vN n)=gi n:=rfl
  rw[e]
  by_cases hn:n < 0
  ·rw[Bl hn,eu]
   have hr:cF (Lib.decDigits (-n).toNat) 16=true:=Bj (PP (by omega))
   unfold zM
   simp only[List.head?_cons,List.drop_succ_cons,List.drop_zero,hr,uk]
   rw[if_neg (by simp),if_neg (by decide),if_neg (by unfold iP; simp),if_neg (by unfold jz; simp),if_neg (by decide),if_pos trivial,if_pos ⟨trivial,by omega⟩]
   congr 1
   omega
  ·rw[show n=(n.toNat:Int) by omega,qj,eu]
   have hr:cF (Lib.decDigits n.toNat) 16=true:=Bj (PP (by omega))
   obtain⟨d1,d2,d3,d4,d5,d6⟩:=K6 (u:=n.toNat)
   unfold zM
   rw[if_neg d1,if_neg d2,if_neg d5,if_neg d6,if_neg d3,if_neg d4,if_pos hr,uk]
 ·have e:lb (dq (vT s))=39 :: lb s:=by
   show lb ((⟨#[39]⟩:ByteArray)++s)=_
   rw[←hY s,show(⟨#[39]⟩:ByteArray)=ba [39] from rfl,rF,eu]
   simp
  rw[e]
  unfold zM
  rw[if_neg (by simp),if_pos (by rfl)]
  simp only[List.drop_succ_cons,List.drop_zero,hY]
 ·cases b <;> rfl
 ·have e:lb (dq (vE (n.val:Int)))=lb (dp (n.val:Int)):=rfl
  rw[e]
  have h1 : ∀ n:Fin 6,1≤n.val→lb (dp (n.val:Int))≠[]∧(lb (dp (n.val:Int))).head? = some 35∧lb (dp (n.val:Int))≠iP∧lb (dp (n.val:Int))≠jz:=by decide +kernel
  obtain⟨a1,a2,a3,a4⟩:=h1 n h0
  unfold zM
  rw[if_neg a1,if_neg (by rw[a2]; decide),if_neg a3,if_neg a4,if_pos a2,H7 n h0]
  rfl
theorem PQ {v:ab} (h:an v=true):bo (lb (dq v))=(v,true):=by
 unfold bo
 rw[TI h,if_pos h]
theorem VR {w:ak} (h:an (zM w)=true):dq (zM w)=ba w:=by
 unfold zM at h ⊢
 split
 ·rename_i hw
  rw[hw]
  rfl
 ·rename_i hw
  rw[if_neg hw] at h
  split
  ·rename_i h39
   cases w with
   | nil=>cases h39
   | cons y l =>
    simp only[List.head?_cons,Option.some.injEq] at h39
    subst h39
    show(⟨#[39]⟩:ByteArray)++ba l=_
    rw[show(⟨#[39]⟩:ByteArray)=ba [39] from rfl,rF]
    rfl
  ·rename_i h39
   rw[if_neg h39] at h
   split
   ·rename_i ht
    rw[ht]
    rfl
   ·rename_i ht
    rw[if_neg ht] at h
    split
    ·rename_i hf
     rw[hf]
     rfl
    ·rename_i hf
     rw[if_neg hf] at h
     split
     ·rename_i h35
      rw[if_pos h35] at h
      have:=B3 h rfl
      simp only at this
      exact(U1 (by omega)).1
     ·rename_i h35
      rw[if_neg h35] at h
      have e9:an (9,0,eS,())=false:=by decide
      split
      ·rename_i h45
       rw[if_pos h45] at h
       split
       ·rename_i hc
        cases w with
        | nil=>cases h45
        | cons y l =>
         simp only[List.head?_cons,Option.some.injEq] at h45
         subst h45
         simp only[List.drop_succ_cons,List.drop_zero] at hc ⊢
         show gi (-((bm 0 l:Nat):Int))=_
         rw[Bl (by omega),show(- -((bm 0 l:Nat):Int)).toNat=bm 0 l by omega,(DU hc.1).1]
       ·rename_i hc
        rw[if_neg hc,e9] at h
        cases h
      ·rename_i h45
       rw[if_neg h45] at h
       split
       ·rename_i hc
        show gi ((bm 0 w:Nat):Int)=_
        rw[qj,(DU hc).1]
       ·rename_i hc
        rw[if_neg hc,e9] at h
        cases h
theorem qn {w:ak} (h:(bo w).2=true):an (bo w).1=true∧dq (bo w).1=ba w:=by
 unfold bo at h ⊢
 split at h
 ·rename_i hc
  rw[if_pos hc]
  exact⟨hc,VR hc⟩
 ·cases h
theorem K7 {w:ak} (h:(bo w).2=false):bo w=(v0,false):=by
 unfold bo at h ⊢
 split at h
 ·cases h
 ·rename_i hc
  rw[if_neg hc]
theorem N3 : ∀(l:ak) (a:Nat),a≤bm a l
 | [],a=>Nat.le_refl _
 | c :: l,a=>by
  have:=N3 l (a*10+(c.toNat - 48))
  show a≤bm (a*10+(c.toNat - 48)) l
  omega
theorem Jd : ∀(l:ak) (a:Nat),l.all dE=true→bm a l≤100000000000000000→Lib.parseUintM 18446744073709551615 a l = .ok (bm a l)
 | [],a,_,_=>rfl
 | c :: l,a,h,hv=>by
  simp only[List.all_cons,Bool.and_eq_true] at h
  have hd:48≤c.toNat∧c.toNat≤57:=by simpa[dE] using h.1
  have hg:=N3 l (a*10+(c.toNat - 48))
  have hv':bm (a*10+(c.toNat - 48)) l≤100000000000000000:=hv
  unfold Lib.parseUintM
  rw[if_pos hd,if_neg (by omega),if_neg (by omega),Jd l _ h.2 hv']
  rfl
theorem U5 {l:ak} (h:jy l=true):l.all dE=true:=by
 unfold jy at h
 simp only[Bool.and_eq_true] at h
 exact h.1.1
theorem RQ {u:Nat} (h:u≤1000000000000000):Lib.parseUintB 64 (Lib.decDigits u) = .ok u:=by
 unfold Lib.parseUintB
 rw[if_neg K6.1]
 have:=Jd (Lib.decDigits u) 0 (U5 (DP u)) (by rw[uk]; omega)
 rw[uk] at this
 exact this
theorem PR {u:Nat} (h:u≤1000000000000000):bX (Lib.decDigits u)=((u:Int),true):=by
 obtain⟨y,l,hy,hd⟩:=FE u
 have hd':48≤y.toNat∧y.toNat≤57:=by simpa[dE] using hd
 have hp:=RQ h
 unfold bX
 have:Lib.parseIntB 64 (Lib.decDigits u) = .ok (u:Int):=by
  rw[hy] at hp ⊢
  unfold Lib.parseIntB
  simp only
  rw[if_neg (by omega),hp]
  simp only
  rw[if_neg (by omega),if_neg (by omega),if_neg (by omega)]
 rw[this]
theorem PS {u:Nat} (h:u≤1000000000000000):bX (45 :: Lib.decDigits u)=(-(u:Int),true):=by
 have hp:=RQ h
 unfold bX
 have:Lib.parseIntB 64 (45 :: Lib.decDigits u) = .ok (-(u:Int)):=by
  unfold Lib.parseIntB
  simp only
  have h45:(45:UInt8).toNat=45:=rfl
  rw[if_pos (.inr h45),hp]
  simp only
  rw[if_neg (by omega),if_neg (by omega),if_pos h45]
 rw[this]
def cV (w:ak):ab :=
 if([39]:ak).isPrefixOf w=true then vT (ba (w.drop 1)) else
 if w=jz then vB (decide (w=iP)) else
 if w=iP then vB (decide (w=iP)) else
 if([35]:ak).isPrefixOf w=true then(if eN w=0 then v0 else vE (eN w)) else
 if w≠[] then vN (bX w).1 else v0
theorem B8 {v:ab} {w:ak} (h:v.2.2.1.size≤9223372036854775807):((cI v).bind fun z2=>(if(!z2.1.1)=true then(some (((0,0,(⟨#[]⟩:ByteArray),()),false,()),(()))) else((eT v).bind fun z3=>(if(!(ByteArray.toList z3.1.1 == ByteArray.toList (ba w)))=true then(some (((0,0,(⟨#[]⟩:ByteArray),()),false,()),(()))) else(some ((v,true,()),(())))))))=some ((if an v=true∧dq v=ba w then v else v0,decide (an v=true∧dq v=ba w),()),()):=by
 rw[ef h]
 simp only[Option.bind_some]
 cases ho:an v with
 | false=>simp; rfl
 | true =>
  rw[rT ho]
  simp only[Option.bind_some,Bool.not_true,Bool.false_eq_true,if_false,Ct,true_and]
  by_cases hv:dq v=ba w
  ·simp[hv]
  ·simp[hv]; rfl
theorem VS {w:ak} (hc : ∀ v:ab,an v=true→dq v=ba w→cV w=v):(if an (cV w)=true∧dq (cV w)=ba w then cV w else v0)=(bo w).1∧decide (an (cV w)=true∧dq (cV w)=ba w)=(bo w).2:=by
 by_cases h:an (cV w)=true∧dq (cV w)=ba w
 ·have:=PQ h.1
  rw[h.2,eu] at this
  rw[if_pos h,decide_eq_true h,this]
  exact⟨rfl,rfl⟩
 ·rw[if_neg h,decide_eq_false h]
  cases h2:(bo w).2 with
  | false=>rw[K7 h2]; exact⟨rfl,rfl⟩
  | true =>
   obtain⟨k1,k2⟩:=qn h2
   refine absurd ?_ h
   rw[hc _ k1 k2]
   exact⟨k1,k2⟩
theorem U6 {v:ab} (h:an v=true):cV (lb (dq v))=v:=by
 rcases we h with rfl | ⟨n,rfl,h0,h1⟩ | ⟨s,rfl⟩ | ⟨b,rfl⟩ | ⟨n,rfl,h0⟩
 ·rfl
 ·have e:dq (vN n)=gi n:=rfl
  rw[e]
  by_cases hn:n < 0
  ·rw[Bl hn,eu]
   unfold cV
   rw[if_neg (by simp),if_neg (by unfold jz; simp),if_neg (by unfold iP; simp),if_neg (by simp),if_pos (by simp),PS (by omega)]
   congr 1
   simp only
   omega
  ·rw[show n=(n.toNat:Int) by omega,qj,eu]
   obtain⟨d1,d2,d3,d4,d5,d6⟩:=K6 (u:=n.toNat)
   have hp:=PR (u:=n.toNat) (by omega)
   obtain⟨y,l,hy,hd⟩:=FE n.toNat
   rw[hy] at d1 d2 d3 d4 d5 d6 hp ⊢
   unfold cV
   rw[if_neg (by rw[fW]; simpa using d2),if_neg d6,if_neg d5,if_neg (by rw[fW]; simpa using d3),if_pos d1,hp]
 ·have e:lb (dq (vT s))=39 :: lb s:=by
   show lb ((⟨#[39]⟩:ByteArray)++s)=_
   rw[←hY s,show(⟨#[39]⟩:ByteArray)=ba [39] from rfl,rF,eu]
   simp
  rw[e]
  unfold cV
  rw[if_pos (by simp)]
  simp only[List.drop_succ_cons,List.drop_zero,hY]
 ·cases b <;> rfl
 ·have e:lb (dq (vE (n.val:Int)))=lb (dp (n.val:Int)):=rfl
  rw[e]
  have h1 : ∀ n:Fin 6,1≤n.val→([39]:ak).isPrefixOf (lb (dp (n.val:Int)))=false∧([35]:ak).isPrefixOf (lb (dp (n.val:Int)))=true∧lb (dp (n.val:Int))≠iP∧lb (dp (n.val:Int))≠jz:=by decide +kernel
  obtain⟨a1,a2,a3,a4⟩:=h1 n h0
  unfold cV
  rw[if_neg (by rw[a1]; decide),if_neg a4,if_neg a3,if_pos a2,H7 n h0,if_neg (by omega)]
theorem xL {w:ak} {n:Int} (h0:0≤n) (h1:n≤5) {a b d e:Int} {c f:ByteArray}:f5 (ba w) n a b c d e f=f5 (ba w) (n+1) a b c (if dp n=ba w then 4 else d) (if dp n=ba w then n else e) (if dp n=ba w then eS else f):=by
 rw[ue,az h1,rS h0 h1]
 simp only[Option.bind_some,Ct,decide_eq_true_eq,gx]
 rw[wr (by omega) (by omega)]
 split <;> rfl
theorem GL {α:Type} (w:ak) (f:Int→α) (z:α) (hz:z=f 0):(if dp 5=ba w then f 5 else if dp 4=ba w then f 4 else if dp 3=ba w then f 3 else if dp 2=ba w then f 2 else if dp 1=ba w then f 1 else z)=f (eN w):=by
 unfold eN
 subst hz
 repeat' split <;> first | rfl | skip
theorem Wn {w:ak}:f5 (ba w) 1 0 0 eS 0 0 eS=some ((if an (if eN w=0 then v0 else vE (eN w))=true∧dq (if eN w=0 then v0 else vE (eN w))=ba w then(if eN w=0 then v0 else vE (eN w)) else v0,decide (an (if eN w=0 then v0 else vE (eN w))=true∧dq (if eN w=0 then v0 else vE (eN w))=ba w),()),()):=by
 rw[xL (by decide) (by decide),xL (by decide) (by decide),xL (by decide) (by decide),xL (by decide) (by decide),xL (by decide) (by decide),ue,aw (by decide)]
 have e1:=GL w (fun n=>if n=0 then(0:Int) else 4) 0 (by simp)
 have e2:=GL w (fun n=>n) 0 rfl
 have e3:=GL w (fun n=>eS) eS rfl
 simp only[show(1:Int)+1=2 from rfl,show(2:Int)+1=3 from rfl,show(3:Int)+1=4 from rfl,show(4:Int)+1=5 from rfl]
 simp only[show(5:Int)=0↔False by decide,show(4:Int)=0↔False by decide,show(3:Int)=0↔False by decide,show(2:Int)=0↔False by decide,show(1:Int)=0↔False by decide,if_false] at e1
 rw[e1,e2,e3]
 have e:((if eN w=0 then(0:Int) else 4),eN w,eS,())=(if eN w=0 then v0 else vE (eN w)):=by
  by_cases h:eN w=0
  ·rw[if_pos h,if_pos h,h]
   rfl
  ·rw[if_neg h,if_neg h]
   rfl
 rw[e]
 exact B8 (by split <;> (show eS.size≤_; decide))
theorem ng {w:ak} (hw:w.length≤281474976710656):ej (ba w)=some (((bo w).1,(bo w).2,()),()):=by
 obtain⟨p1,p2⟩:=VS (w:=w) (fun v h1 h2=>by have:=U6 h1; rw[h2,eu] at this; exact this)
 have aM : ∀ v:ab,cV w=v→(some ((if an v=true∧dq v=ba w then v else v0,decide (an v=true∧dq v=ba w),()),()):Option ((ab×Bool×Unit)×Unit))=some (((bo w).1,(bo w).2,()),()):=by
  rintro v rfl
  rw[p1,p2]
 have hv:=cV.eq_def w
 have e1:(ByteArray.toList (ba w) == ByteArray.toList (⟨#[84,82,85,69]⟩:ByteArray))=decide (w=iP):=dD (b:=iP)
 have e2:(ByteArray.toList (ba w) == ByteArray.toList (⟨#[70,65,76,83,69]⟩:ByteArray))=decide (w=jz):=dD (b:=jz)
 have e0:(ByteArray.toList (ba w) == ByteArray.toList (⟨#[]⟩:ByteArray))=decide (w=[]):=dD (b:=[])
 rw[IP,show(⟨#[39]⟩:ByteArray)=ba [39] from rfl,rI w [39] (by omega),show(⟨#[35]⟩:ByteArray)=ba [35] from rfl,rH w [35] (by omega),e0,e1,e2]
 simp only[Option.bind_some,rD]
 cases h39:([39]:ak).isPrefixOf w with
 | true =>
  rw[if_pos h39] at hv
  simp only[if_true]
  refine(B8 (v:=vT (ba (w.drop 1))) ?_).trans (aM _ hv)
  show(ba _).size≤_
  rw[aN]
  simp
  omega
 | false =>
  rw[if_neg (by rw[h39]; decide)] at hv
  simp only[Bool.false_eq_true,if_false]
  by_cases hf:w=jz
  ·rw[if_pos hf] at hv
   rw[az hf]
   exact(B8 (v:=vB (decide (w=iP))) (by show eS.size≤_; decide)).trans (aM _ hv)
  ·rw[if_neg hf] at hv
   rw[aw hf]
   by_cases ht:w=iP
   ·rw[if_pos ht] at hv
    rw[az ht]
    exact(B8 (v:=vB (decide (w=iP))) (by show eS.size≤_; decide)).trans (aM _ hv)
   ·rw[if_neg ht] at hv
    rw[aw ht]
    cases h35:([35]:ak).isPrefixOf w with
    | true =>
     rw[if_pos h35] at hv
     simp only[if_true]
     exact Wn.trans (aM _ hv)
    | false =>
     rw[if_neg (by rw[h35]; decide)] at hv
     simp only[Bool.false_eq_true,if_false]
     by_cases he:w=[]
     ·rw[if_neg (by simpa using he)] at hv
      simp only[he,decide_true,Bool.not_true,Bool.false_eq_true,if_false]
      rw[he] at hv aM
      exact(B8 (v:=v0) (w:=[]) (by decide)).trans (aM _ hv)
     ·rw[if_pos he] at hv
      simp only[he,decide_false,Bool.not_false,if_true,wd hw,Option.bind_some,iL]
      exact(B8 (v:=vN (bX w).1) (by show eS.size≤_; decide)).trans (aM _ hv)
def Ux (c:UInt8):Bool:=decide (c=32)
def bl (l:ak):ak:=l.dropWhile Ux
def aX (c:UInt8):Bool:=fg c || dE c || decide (c=36)
theorem VT:(fun c=>([32]:ak).contains c)=Ux:=funext fun c=>DN (p:=fun c=>([32]:ak).contains c=Ux c) (by decide +kernel) c
theorem VU:(fun c=>([65,66,67,68,69,70,71,72,73,74,75,76,77,78,79,80,81,82,83,84,85,86,87,88,89,90,48,49,50,51,52,53,54,55,56,57,36]:ak).contains c)=aX:=funext fun c=>DN (p:=fun c=>([65,66,67,68,69,70,71,72,73,74,75,76,77,78,79,80,81,82,83,84,85,86,87,88,89,90,48,49,50,51,52,53,54,55,56,57,36]:ak).contains c=aX c) (by decide +kernel) c
theorem FF (p:UInt8→Bool) : ∀ l:ak,(l.dropWhile p).dropWhile p=l.dropWhile p
 | []=>rfl
 | c :: l=>by
  cases h:p c with
  | true=>rw[List.dropWhile_cons_of_pos h,FF p l]
  | false =>
   have h' : ¬p c=true:=by rw[h]; decide
   rw[List.dropWhile_cons_of_neg h',List.dropWhile_cons_of_neg h']
theorem dz (l:ak):bl (bl l)=bl l:=FF _ _
theorem au (l:ak):bl l <:+ l:=List.dropWhile_suffix _
theorem aF {a b:ak} (h:a <:+ b):a.length≤b.length:=h.length_le
theorem pB (l:ak) (b:Bool) (ns:List aa):gE (ba l) b ns=some ((),((ba (bl l),ns,b,()),())):=by
 rw[Ci,show(⟨#[32]⟩:ByteArray)=ba [32] from rfl,wa _ _ (by decide +kernel),VT]
 rfl
def Uy:List ak:=[[60,62],[60,61],[62,61],[60],[62],[61],[38],[43],[45],[42],[47],[40],[41],[44],[58]]
def sg (l:ak):ak:=(Uy.find? fun p=>p.isPrefixOf l).getD []
theorem FH {l:ak} {b:Bool} {ns:List aa} (hl:l.length≤1000) {X:List ByteArray} (hX:X.length≤100) : ∀(ys:List ak) (pre:List ByteArray),X=pre++ys.map (fun x=>ba x)→kO (X.length:Int) (pre.length:Int) (ba l) b X ns=some ((ba ((ys.find? fun p=>p.isPrefixOf l).getD []),()),((ba l,ns,b,()),()))
 | [],pre,h=>by
  rw[rz,aw (bi (by simpa using h))]
  rfl
 | y :: ys,pre,h=>by
  have h':X=pre++ba y :: ys.map (fun x=>ba x):=by simpa using h
  have hd:List.getD X (Int.toNat (pre.length:Int)) (⟨#[]⟩:ByteArray)=ba y:=by rw[h']; exact lY
  rw[rz,az (bq h'),lI h',hd,rH _ _ (by omega)]
  simp only[Option.bind_some,List.find?_cons]
  cases hy:y.isPrefixOf l with
  | true=>rfl
  | false =>
   simp only[Bool.false_eq_true,if_false]
   rw[aL h' (by omega)]
   exact FH hl hX ys (pre++[ba y]) (by rw[h']; simp)
theorem K8 {l:ak} {b:Bool} {ns:List aa} (hl:l.length≤1000):oT (ba l) b ns=some ((ba (sg (bl l)),()),((ba (bl l),ns,b,()),())):=by
 rw[E6,pB]
 simp only[Option.bind_some]
 have:=aF (au l)
 exact FH (by omega) (by decide) Uy [] rfl
theorem K9 (l:ak):(sg l).isPrefixOf l=true:=by
 unfold sg
 cases h:Uy.find? fun p=>p.isPrefixOf l with
 | none=>simp
 | some p =>
  have:=List.find?_some h
  simpa using this
theorem B9 {p l:ak} (h:p.isPrefixOf l=true):p.length≤l.length:=(List.isPrefixOf_iff_prefix.1 h).length_le
theorem dT {l w:ak} {b:Bool} {ns:List aa} (hl:l.length≤1000):bz (ba w) (ba l) b ns=some ((decide (sg (bl l)=w),()),((ba (if sg (bl l)=w then(bl l).drop w.length else bl l),ns,b,()),())):=by
 rw[E7,K8 hl]
 simp only[Option.bind_some,dD]
 by_cases h:sg (bl l)=w
 ·have:=B9 (K9 (bl l))
  rw[h] at this
  simp only[h,decide_true,Bool.not_true,Bool.false_eq_true,if_false,if_true,aN]
  rw[fN this]
 ·simp[h]
def gO (y:UInt8) (a b:Bool):Int:=if y=60 then(if a=true then 7 else if b=true then 9 else 8) else if y=62 then(if b=true then 11 else 10) else if y=61 then 6 else if y=38 then 5 else if y=43 then 1 else if y=45 then 2 else if y=42 then 3 else if y=47 then 4 else 0
def gS (y:UInt8) (a b:Bool):ak:=if y=60 then(if a=true then [60,62] else if b=true then [60,61] else [60]) else if y=62 then(if b=true then [62,61] else [62]) else if y=61 then [61] else if y=38 then [38] else if y=43 then [43] else if y=45 then [45] else if y=42 then [42] else if y=47 then [47] else if y=40 then [40] else if y=41 then [41] else if y=44 then [44] else if y=58 then [58] else []
def fz (l:ak):Int:=match l with
 | []=>0
 | y :: t=>gO y (decide (t.head? = some 62)) (decide (t.head? = some 61))
def ey (k:Int):ak:=([[],[43],[45],[42],[47],[38],[61],[60,62],[60],[60,61],[62],[62,61]]:List ak).getD k.toNat []
theorem GM (y:UInt8) (t:ak):sg (y :: t)=gS y (decide (t.head? = some 62)) (decide (t.head? = some 61)):=by
 unfold sg Uy
 simp only[List.find?_cons,List.find?_nil,fW,DM]
 generalize decide (t.head? = some 62)=a
 generalize decide (t.head? = some 61)=b
 have : ∀ a b:Bool,(Option.getD (match decide (y=60) && a with | true=>some [60,62] | false=>match decide (y=60) && b with | true=>some [60,61] | false=>match decide (y=62) && b with | true=>some [62,61] | false=>match decide (y=60) with | true=>some [60] | false=>match decide (y=62) with | true=>some [62] | false=>match decide (y=61) with | true=>some [61] | false=>match decide (y=38) with | true=>some [38] | false=>match decide (y=43) with | true=>some [43] | false=>match decide (y=45) with | true=>some [45] | false=>match decide (y=42) with | true=>some [42] | false=>match decide (y=47) with | true=>some [47] | false=>match decide (y=40) with | true=>some [40] | false=>match decide (y=41) with | true=>some [41] | false=>match decide (y=44) with | true=>some [44] | false=>match decide (y=58) with | true=>some [58] | false=>none) []:ak)=gS y a b :=
  DN (p:=fun y => ∀ a b:Bool,(Option.getD (match decide (y=60) && a with | true=>some [60,62] | false=>match decide (y=60) && b with | true=>some [60,61] | false=>match decide (y=62) && b with | true=>some [62,61] | false=>match decide (y=60) with | true=>some [60] | false=>match decide (y=62) with | true=>some [62] | false=>match decide (y=61) with | true=>some [61] | false=>match decide (y=38) with | true=>some [38] | false=>match decide (y=43) with | true=>some [43] | false=>match decide (y=45) with | true=>some [45] | false=>match decide (y=42) with | true=>some [42] | false=>match decide (y=47) with | true=>some [47] | false=>match decide (y=40) with | true=>some [40] | false=>match decide (y=41) with | true=>some [41] | false=>match decide (y=44) with | true=>some [44] | false=>match decide (y=58) with | true=>some [58] | false=>none) []:ak)=gS y a b) (by decide +kernel) y
 exact this a b
theorem mY {c:UInt8} (hc:c=45∨c=40∨c=41∨c=44∨c=58) (l:ak):(sg l=[c])=(l.head? = some c):=by
 apply propext
 constructor
 ·intro h
  have:=K9 l
  rw[h,DL] at this
  exact of_decide_eq_true this
 ·intro h
  cases l with
  | nil=>cases h
  | cons y t =>
   simp only[List.head?_cons,Option.some.injEq] at h
   subst h
   rw[GM]
   rcases hc with rfl | rfl | rfl | rfl | rfl <;> rfl
def VV (s:ak):Int:=if ey 11=s then 11 else if ey 10=s then 10 else if ey 9=s then 9 else if ey 8=s then 8 else if ey 7=s then 7 else if ey 6=s then 6 else if ey 5=s then 5 else if ey 4=s then 4 else if ey 3=s then 3 else if ey 2=s then 2 else if ey 1=s then 1 else 0
theorem La (y:UInt8) : ∀ a b:Bool,VV (gS y a b)=gO y a b∧(gO y a b≠0→gS y a b=ey (gO y a b))∧0≤gO y a b∧gO y a b≤11 :=
 DN (p:=fun y => ∀ a b:Bool,VV (gS y a b)=gO y a b∧(gO y a b≠0→gS y a b=ey (gO y a b))∧0≤gO y a b∧gO y a b≤11) (by decide +kernel) y
theorem VW (l:ak):VV (sg l)=fz l:=by
 cases l with
 | nil=>decide
 | cons y t =>
  rw[GM]
  exact(La y _ _).1
theorem zf {l:ak} (h:fz l≠0):sg l=ey (fz l):=by
 cases l with
 | nil=>exact absurd rfl h
 | cons y t =>
  rw[GM]
  exact(La y _ _).2.1 h
theorem rJ (l:ak):0≤fz l∧fz l≤11:=by
 cases l with
 | nil=>decide
 | cons y t=>exact(La y _ _).2.2
theorem zg {k:Int} (h0:0≤k) (h1:k≤11):w9 k=some ((ba (ey k),()),()):=by
 rw[Pc,bu h0 (by show k < 12; omega)]
 have : ∀ k:Fin 12,List.getD ([(⟨#[]⟩:ByteArray),(⟨#[43]⟩:ByteArray),(⟨#[45]⟩:ByteArray),(⟨#[42]⟩:ByteArray),(⟨#[47]⟩:ByteArray),(⟨#[38]⟩:ByteArray),(⟨#[61]⟩:ByteArray),(⟨#[60,62]⟩:ByteArray),(⟨#[60]⟩:ByteArray),(⟨#[60,61]⟩:ByteArray),(⟨#[62]⟩:ByteArray),(⟨#[62,61]⟩:ByteArray)]:(List ByteArray)) k.val (⟨#[]⟩:ByteArray)=ba (ey (k.val:Int)):=by decide +kernel
 have h:=this ⟨k.toNat,by omega⟩
 simp only[Int.toNat_of_nonneg h0] at h
 rw[h]
theorem zh {k:Int} (h0:0≤k) (h1:k≤11):wV k=some ((ba (ey k),()),()):=by
 rw[OS,bu h0 (by show k < 12; omega)]
 have : ∀ k:Fin 12,List.getD ([(⟨#[]⟩:ByteArray),(⟨#[43]⟩:ByteArray),(⟨#[45]⟩:ByteArray),(⟨#[42]⟩:ByteArray),(⟨#[47]⟩:ByteArray),(⟨#[38]⟩:ByteArray),(⟨#[61]⟩:ByteArray),(⟨#[60,62]⟩:ByteArray),(⟨#[60]⟩:ByteArray),(⟨#[60,61]⟩:ByteArray),(⟨#[62]⟩:ByteArray),(⟨#[62,61]⟩:ByteArray)]:(List ByteArray)) k.val (⟨#[]⟩:ByteArray)=ba (ey (k.val:Int)):=by decide +kernel
 have h:=this ⟨k.toNat,by omega⟩
 simp only[Int.toNat_of_nonneg h0] at h
 rw[h]
theorem H8 {least deep left op k:Int} {l:ak} {b:Bool} {ns:List aa} (hl:l.length≤1000) (h0:0≤k) (h1:k≤11) :
  cd least deep left op k (ba l) b ns=cd least deep left (if ey k=sg (bl l) then k else op) (k+1) (ba (bl l)) b ns:=by
 rw[pq,az h1,K8 hl]
 simp only[Option.bind_some]
 rw[zg h0 h1]
 simp only[Option.bind_some,dD,decide_eq_true_eq]
 rw[wr (by omega) (by omega)]
 by_cases h:sg (bl l)=ey k
 ·rw[if_pos h,if_pos h.symm]
 ·rw[if_neg h,if_neg (Ne.symm h)]
theorem DV {least deep left:Int} {l:ak} {b:Bool} {ns:List aa} (hl:l.length≤1000) :
  cd least deep left 0 1 (ba l) b ns=cd least deep left (fz (bl l)) 12 (ba (bl l)) b ns:=by
 have:=aF (au l)
 have st : ∀(op k:Int),0≤k→k≤11→cd least deep left op k (ba (bl l)) b ns=cd least deep left (if ey k=sg (bl l) then k else op) (k+1) (ba (bl l)) b ns:=by
  intro op k h0 h1
  rw[H8 (by omega) h0 h1,dz]
 rw[H8 hl (by decide) (by decide),st _ (1+1) (by decide) (by decide),st _ (1+1+1) (by decide) (by decide),st _ (1+1+1+1) (by decide) (by decide),st _ (1+1+1+1+1) (by decide) (by decide),st _ (1+1+1+1+1+1) (by decide) (by decide),
  st _ (1+1+1+1+1+1+1) (by decide) (by decide),st _ (1+1+1+1+1+1+1+1) (by decide) (by decide),st _ (1+1+1+1+1+1+1+1+1) (by decide) (by decide),st _ (1+1+1+1+1+1+1+1+1+1) (by decide) (by decide),st _ (1+1+1+1+1+1+1+1+1+1+1) (by decide) (by decide)]
 rw[←VW (bl l)]
 rfl
def bF (s l:ak):Int:=(s.length:Int) - (l.length:Int)
theorem nI {s l:ak} (h:l <:+ s) : ∃ pre,s=pre++l∧bF s l=(pre.length:Int):=by
 obtain⟨pre,h⟩:=h
 refine⟨pre,h.symm,?_⟩
 unfold bF
 rw[←h,List.length_append]
 omega
theorem FI {s:ak} {b:Bool} {ns:List aa} (hs:s.length≤1000) : ∀(l:ak),l <:+ s→kN (ba s) (bF s l) b ns=some ((),((ba s,bF s (bl l),b,ns,()),()))
 | [],h=>by
  rw[ry,aw (by rw[aN]; unfold bF; simp)]
  rfl
 | c :: l,h=>by
  obtain⟨pre,h1,h2⟩:=nI h
  have hl:pre.length < s.length:=by rw[h1]; simp
  rw[ry,h2,az (by rw[aN]; omega),kk h1]
  by_cases hc:c=32
  ·subst hc
   have hl':l <:+ s:=List.IsSuffix.trans (List.suffix_cons _ _) h
   rw[if_pos (by rfl),wr (by omega) (by omega)]
   have e:(pre.length:Int)+1=bF s l:=by
    rw[←h2]
    unfold bF
    rw[List.length_cons]
    omega
   rw[e,FI hs l hl']
   rfl
  ·have h0' : ¬((c.toNat:Int) == 32)=true:=by
    simp only[beq_iff_eq]
    intro e
    apply hc
    apply UInt8.toNat_inj.1
    show c.toNat=32
    omega
   rw[if_neg h0',←h2]
   have:bl (c :: l)=c :: l:=List.dropWhile_cons_of_neg (by simp[Ux,hc])
   rw[this]
theorem Lb {s l:ak} {b:Bool} {ns:List aa} (hs:s.length≤1000) (h:l <:+ s):jq (ba s) (bF s l) b ns=some ((),((ba s,bF s (bl l),b,ns,()),())):=by
 rw[E3]
 exact FI hs l h
theorem ah {a b c:ak} (h:a <:+ b) (k:b <:+ c):a <:+ c:=List.IsSuffix.trans h k
theorem fx (n:Nat) (l:ak):l.drop n <:+ l:=List.drop_suffix n l
theorem hH {s l w:ak} {b:Bool} {ns:List aa} (hs:s.length≤1000) (hw:w.length≤1000) (h:l <:+ s) :
  dB (ba w) (ba s) (bF s l) b ns=some (((!b && w.isPrefixOf (bl l)),()),((ba s,bF s (if(!b && w.isPrefixOf (bl l))=true then(bl l).drop w.length else bl l),b,ns,()),())):=by
 have hb:=ah (au l) h
 rw[Mn,Lb hs h]
 simp only[Option.bind_some]
 cases b with
 | true=>rfl
 | false =>
  simp only[Bool.false_eq_true,if_false,Bool.not_false,Bool.true_and,aN]
  generalize bl l=m at hb
  obtain⟨pre,h1,h2⟩:=nI hb
  have hl:pre.length+m.length=s.length:=by rw[h1]; simp
  rw[h2,wr (by omega) (by omega)]
  by_cases hm:w.length≤m.length
  ·rw[aw (by omega),show(pre.length:Int)+(w.length:Int)=((pre.length+w.length:Nat):Int) by omega,xE (by omega) (by omega),dD]
   have e:(s.take (pre.length+w.length)).drop pre.length=m.take w.length:=by
    rw[h1,List.take_append,List.drop_append]
    simp
   rw[e]
   have e2:decide (m.take w.length=w)=w.isPrefixOf m:=by
    rw[Bool.eq_iff_iff,decide_eq_true_eq,List.isPrefixOf_iff_prefix,List.prefix_iff_eq_take]
    exact eq_comm
   rw[e2]
   cases w.isPrefixOf m with
   | true =>
    simp only[Bool.not_true,Bool.false_eq_true,if_false,if_true]
    have e5:((pre.length+w.length:Nat):Int)=bF s (m.drop w.length):=by
     unfold bF
     rw[List.length_drop]
     omega
    rw[e5]
   | false =>
    simp only[Bool.not_false,if_true,Bool.false_eq_true,if_false]
    rw[h2]
  ·rw[az (by omega)]
   have e2:w.isPrefixOf m=false:=by
    rw[Bool.eq_false_iff]
    intro hp
    exact hm (B9 hp)
   rw[e2]
   simp only[Bool.false_eq_true,if_false]
   rw[h2]
theorem zi {l:ak} {b:Bool} {ns:List aa} (hl:l.length≤1000):js (ba l) b ns=some ((ba ((bl l).takeWhile aX),()),((ba ((bl l).dropWhile aX),ns,b,()),())):=by
 have:=aF (au l)
 obtain⟨d1,d2,d3⟩:=A9 aX (bl l)
 rw[E8,pB]
 simp only[Option.bind_some]
 rw[wa _ _ (by decide +kernel),VU]
 simp only[Option.bind_some,aN]
 rw[wr (by omega) (by omega),show((bl l).length:Int) - (((bl l).dropWhile aX).length:Int)=(((bl l).length - ((bl l).dropWhile aX).length:Nat):Int) by omega,Fy (by omega),fN (by omega),d1,d2]
theorem H9 {s pre l:ak} {w:Nat} {b:Bool} {ns:List aa} (h:s=pre++l) (hw:w≤pre.length) :
  (uL (ba s) (w:Int) (pre.length:Int) fun y6=>(some ((y6,()),((ba s,(pre.length:Int),b,ns,()),()))))=(some ((ba (pre.drop w),()),((ba s,bF s l,b,ns,()),())):Option ((ByteArray×Unit)×(ko×Unit))):=by
 have hl:pre.length+l.length=s.length:=by rw[h]; simp
 rw[xE hw (by omega)]
 congr 3
 ·congr 1
  rw[h,List.take_left' rfl]
 ·unfold bF
  congr 3
  omega
theorem FJ {s:ak} {b:Bool} {ns:List aa} (hs:s.length≤1000) {w:Nat} : ∀(l pre:ak),s=pre++l→w≤pre.length→dF (w:Int) (ba s) (pre.length:Int) b ns=some ((ba (pre.drop w++l.takeWhile aX),()),((ba s,bF s (l.dropWhile aX),b,ns,()),()))
 | [],pre,h,hw=>by
  have hl:pre.length=s.length:=by rw[h]; simp
  rw[tZ,aw (by rw[aN]; omega)]
  simpa using H9 (b:=b) (ns:=ns) h hw
 | y :: l,pre,h,hw=>by
  have hl:pre.length < s.length:=by rw[h]; simp
  have ih:=FJ (b:=b) (ns:=ns) hs (w:=w) l (pre++[y]) (by rw[h]; simp) (by rw[List.length_append]; omega)
  rw[show((pre++[y]).length:Int)=(pre.length:Int)+1 by simp,List.drop_append_of_le_length hw] at ih
  have he:=H9 (b:=b) (ns:=ns) h hw
  rw[tZ,az (by rw[aN]; omega)]
  simp only[kk h]
  rw[wr (by omega) (by omega)]
  have h36:((y.toNat:Int) == 36)=decide (y=36):=by
   rw[Bool.eq_iff_iff,beq_iff_eq,decide_eq_true_eq]
   constructor
   ·intro e
    apply UInt8.toNat_inj.1
    show y.toNat=36
    omega
   ·rintro rfl
    rfl
  rw[h36]
  cases hy:aX y with
  | true =>
   have e1:(y :: l).takeWhile aX=y :: l.takeWhile aX:=List.takeWhile_cons_of_pos hy
   have e2:(y :: l).dropWhile aX=l.dropWhile aX:=List.dropWhile_cons_of_pos hy
   rw[e1,e2]
   have e3:pre.drop w++y :: l.takeWhile aX=pre.drop w++[y]++l.takeWhile aX:=by simp
   rw[e3,←ih]
   simp only[aX,fg,dE,Bool.or_eq_true,Bool.and_eq_true,decide_eq_true_eq] at hy
   by_cases c1:65≤y.toNat
   ·rw[az (by omega)]
    by_cases c2:y.toNat≤90
    ·rw[az (by omega)]
    ·rw[aw (by omega),az (by omega),aw (by omega)]
     exfalso
     rcases hy with(hy | hy) | rfl
     ·omega
     ·omega
     ·exact absurd c1 (by decide)
   ·rw[aw (by omega)]
    by_cases c3:48≤y.toNat
    ·rw[az (by omega)]
     by_cases c4:y.toNat≤57
     ·rw[az (by omega)]
     ·rw[aw (by omega)]
      exfalso
      rcases hy with(hy | hy) | rfl
      ·omega
      ·omega
      ·exact absurd c3 (by decide)
    ·rw[aw (by omega)]
     have:y=36:=by
      rcases hy with(hy | hy) | hy
      ·omega
      ·omega
      ·exact hy
     rw[az this]
  | false =>
   have e1:(y :: l).takeWhile aX=[]:=List.takeWhile_cons_of_neg (by rw[hy]; decide)
   have e2:(y :: l).dropWhile aX=y :: l:=List.dropWhile_cons_of_neg (by rw[hy]; decide)
   rw[e1,e2,List.append_nil,←he]
   simp only[aX,fg,dE,Bool.or_eq_false_iff,Bool.and_eq_false_iff,decide_eq_false_iff_not] at hy
   obtain⟨⟨k1,k2⟩,k3⟩:=hy
   by_cases c1:65≤y.toNat
   ·rw[az (by omega),aw (by omega),az (by omega),aw (by omega),aw k3]
   ·rw[aw (by omega)]
    by_cases c3:48≤y.toNat
    ·rw[az (by omega),aw (by omega),aw k3]
    ·rw[aw (by omega),aw k3]
theorem DW {s l:ak} {b:Bool} {ns:List aa} (hs:s.length≤1000) (h:l <:+ s):l8 (ba s) (bF s l) b ns=some ((ba (l.takeWhile aX),()),((ba s,bF s (l.dropWhile aX),b,ns,()),())):=by
 obtain⟨pre,h1,h2⟩:=nI h
 rw[Iz,h2,FJ hs l pre h1 (Nat.le_refl _)]
 simp
def dx (k:Int):Int:=if k≥6 then 1 else if k=5 then 2 else if k≥3 then 4 else 3
theorem wg (k:Int):tF k=some ((dx k,()),()):=by
 rw[Ms]
 unfold dx
 simp only[decide_eq_true_eq,beq_iff_eq]
 repeat' split
 all_goals first | rfl | omega
theorem Ia {k:Int} (h0:1≤k) (h1:k≤11):AM k=some ((dx k,()),()):=by
 rw[Rq]
 unfold dx
 simp only[beq_iff_eq]
 repeat' split
 all_goals first | rfl | omega
abbrev uu:List Int:=[7,9,11,6,8,10,1,2,3,4,5]
def zN (L:Int) (m:ak) (k:Int):Bool:=decide (dx k=L) && (ey k).isPrefixOf m
theorem GN (k:Int):(ey k).length≤2:=by
 unfold ey
 have : ∀ i:Nat,(([[],[43],[45],[42],[47],[38],[61],[60,62],[60],[60,61],[62],[62,61]]:List ak).getD i []).length≤2:=by
  intro i
  by_cases hi:i < 12
  ·have h : ∀ j:Fin 12,(([[],[43],[45],[42],[47],[38],[61],[60,62],[60],[60,61],[62],[62,61]]:List ak).getD j.val []).length≤2:=by decide
   exact h ⟨i,hi⟩
  ·rw[List.getD_eq_getElem?_getD,List.getElem?_eq_none (by simp; omega)]
   simp
 exact this _
section
variable {s:ak} {ns:List aa} {L:Int}
def zj (s l l':ak) (ns:List aa):Option Int→Option ((Int×Unit)×(ko×Unit))
 | some k=>some ((k,()),((ba s,bF s ((bl l).drop (ey k).length),false,ns,()),()))
 | none=>some ((0,()),((ba s,bF s l',false,ns,()),()))
theorem VX {pre ys:List Int} {k:Int} (h:uu=pre++k :: ys):List.getD uu (Int.toNat (pre.length:Int)) 0=k:=by rw[h]; exact lY
theorem Ib {k:Int} (h:k∈uu):1≤k∧k≤11:=by
 have : ∀ k∈uu,1≤k∧k≤11:=by decide
 exact this k h
theorem Bm (hs:s.length≤1000) : ∀(ys pre:List Int) (l:ak),uu=pre++ys→l <:+ s → ∃ l',(l'=l∨l'=bl l)∧lF L (pre.length:Int) (ba s) (bF s l) false uu ns=zj s l l' ns (ys.find? (zN L (bl l)))
 | [],pre,l,h,hl=>by
  refine⟨l,.inl rfl,?_⟩
  rw[vr,aw (bi h)]
  rfl
 | k :: ys,pre,l,h,hl=>by
  have hk:=Ib (k:=k) (by rw[h]; simp)
  rw[vr,az (bq h),lI h,VX h,wg]
  simp only[Option.bind_some,List.find?_cons,beq_iff_eq]
  by_cases hL:dx k=L
  ·rw[if_pos hL,lI h,zh (by omega) (by omega)]
   simp only[Option.bind_some]
   have:=GN k
   rw[hH hs (by omega) hl]
   simp only[Option.bind_some,Bool.not_false,Bool.true_and]
   cases hp:(ey k).isPrefixOf (bl l) with
   | true =>
    simp only[if_true,zN,hL,decide_true,Bool.true_and,hp]
    rw[lI h]
    exact⟨l,.inl rfl,rfl⟩
   | false =>
    simp only[Bool.false_eq_true,if_false,zN,hL,decide_true,Bool.true_and,hp]
    rw[aL h (by decide)]
    obtain⟨l',h1,h2⟩:=Bm hs ys (pre++[k]) (bl l) (av h) (ah (au l) hl)
    rw[dz] at h1 h2
    refine⟨l',.inr (by simpa using h1),?_⟩
    rw[h2]
    unfold zj
    rw[dz]
  ·rw[if_neg hL,aL h (by decide)]
   obtain⟨l',h1,h2⟩:=Bm hs ys (pre++[k]) l (av h) hl
   refine⟨l',h1,?_⟩
   rw[h2]
   simp[zN,hL]
theorem Lc (hs:s.length≤1000) : ∀(ys pre:List Int) (l:ak),uu=pre++ys→l <:+ s → ∃ l',(l'=l∨l'=bl l)∧qQ L (pre.length:Int) (ba s) (bF s l) false ns uu=zj s l l' ns (ys.find? (zN L (bl l)))
 | [],pre,l,h,hl=>by
  refine⟨l,.inl rfl,?_⟩
  rw[xo,aw (bi h)]
  rfl
 | k :: ys,pre,l,h,hl=>by
  have hk:=Ib (k:=k) (by rw[h]; simp)
  rw[xo,az (bq h),lI h,VX h,wg]
  simp only[Option.bind_some,List.find?_cons,beq_iff_eq]
  by_cases hL:dx k=L
  ·rw[if_pos hL,lI h,zh (by omega) (by omega)]
   simp only[Option.bind_some]
   have:=GN k
   rw[hH hs (by omega) hl]
   simp only[Option.bind_some,Bool.not_false,Bool.true_and]
   cases hp:(ey k).isPrefixOf (bl l) with
   | true =>
    simp only[if_true,zN,hL,decide_true,Bool.true_and,hp]
    rw[lI h]
    exact⟨l,.inl rfl,rfl⟩
   | false =>
    simp only[Bool.false_eq_true,if_false,zN,hL,decide_true,Bool.true_and,hp]
    rw[aL h (by decide)]
    obtain⟨l',h1,h2⟩:=Bm (L:=L) (ns:=ns) hs ys (pre++[k]) (bl l) (av h) (ah (au l) hl)
    rw[dz] at h1 h2
    refine⟨l',.inr (by simpa using h1),?_⟩
    rw[h2]
    unfold zj
    rw[dz]
  ·rw[if_neg hL,aL h (by decide)]
   obtain⟨l',h1,h2⟩:=Lc hs ys (pre++[k]) l (av h) hl
   refine⟨l',h1,?_⟩
   rw[h2]
   simp[zN,hL]
end
theorem FK {α:Type} {p q:α→Bool} : ∀ {l:List α},(∀ x∈l,p x=q x)→l.find? p=l.find? q
 | [],_=>rfl
 | x :: l,h=>by
  rw[List.find?_cons,List.find?_cons,h x (by simp),FK (fun y hy=>h y (List.mem_cons_of_mem _ hy))]
def pS (k:Int) (y:UInt8) (a b:Bool):Bool:=if k=7 then decide (y=60) && a else if k=9 then decide (y=60) && b else if k=11 then decide (y=62) && b else if k=6 then decide (y=61) else if k=8 then decide (y=60) else if k=10 then decide (y=62) else if k=1 then decide (y=43) else if k=2 then decide (y=45) else if k=3 then decide (y=42) else if k=4 then decide (y=47) else decide (y=38)
theorem Wo (y:UInt8) (t:ak) : ∀ k∈uu,(ey k).isPrefixOf (y :: t)=pS k y (decide (t.head? = some 62)) (decide (t.head? = some 61)):=by
 intro k hk
 have:k=7∨k=9∨k=11∨k=6∨k=8∨k=10∨k=1∨k=2∨k=3∨k=4∨k=5:=by simpa using hk
 rcases this with rfl | rfl | rfl | rfl | rfl | rfl | rfl | rfl | rfl | rfl | rfl
 ·exact DM y t 60 62
 ·exact DM y t 60 61
 ·exact DM y t 62 61
 ·exact fW y t 61
 ·exact fW y t 60
 ·exact fW y t 62
 ·exact fW y t 43
 ·exact fW y t 45
 ·exact fW y t 42
 ·exact fW y t 47
 ·exact fW y t 38
def fS (L:Int) (y:UInt8) (a b:Bool):Prop:=uu.find? (fun k=>decide (dx k=L) && pS k y a b)=if gO y a b≠0∧dx (gO y a b)=L then some (gO y a b) else none
instance (L:Int) (y:UInt8) (a b:Bool):Decidable (fS L y a b):=by unfold fS; infer_instance
theorem VY (y:UInt8) : ∀ a b:Bool,fS 1 y a b∧fS 2 y a b∧fS 3 y a b∧fS 4 y a b :=
 DN (p:=fun y => ∀ a b:Bool,fS 1 y a b∧fS 2 y a b∧fS 3 y a b∧fS 4 y a b) (by decide +kernel) y
theorem TJ {L:Int} (hL:L=1∨L=2∨L=3∨L=4) (m:ak):uu.find? (zN L m)=if fz m≠0∧dx (fz m)=L then some (fz m) else none:=by
 cases m with
 | nil =>
  have : ∀ k∈uu,(ey k).isPrefixOf ([]:ak)=false:=by decide
  have h0:fz ([]:ak)=0:=rfl
  rw[h0,if_neg (by simp),List.find?_eq_none]
  intro k hk
  unfold zN
  rw[this k hk,Bool.and_false]
  decide
 | cons y t =>
  have e:uu.find? (zN L (y :: t))=uu.find? (fun k=>decide (dx k=L) && pS k y (decide (t.head? = some 62)) (decide (t.head? = some 61))):=FK fun k hk=>by
   unfold zN
   rw[Wo y t k hk]
  rw[e]
  obtain⟨h1,h2,h3,h4⟩:=VY y (decide (t.head? = some 62)) (decide (t.head? = some 61))
  rcases hL with rfl | rfl | rfl | rfl
  ·exact h1
  ·exact h2
  ·exact h3
  ·exact h4
theorem VZ {s l:ak} {ns:List aa} {L:Int} (hs:s.length≤1000) (hL:L=1∨L=2∨L=3∨L=4) (h:l <:+ s) :
  ∃ l',(l'=l∨l'=bl l)∧Dl L (ba s) (bF s l) false ns=zj s l l' ns (if fz (bl l)≠0∧dx (fz (bl l))=L then some (fz (bl l)) else none):=by
 rw[Mt,←TJ hL]
 exact Lc hs uu [] l rfl h
theorem Ca {x:aa} {l:ak} {b:Bool} {ns:List aa} (hn:ns.length≤60) :
  ∃ i,aR x (ba l) b ns=some ((i,()),((ba l,(if b=false∧ns.length < 60 then ns++[x] else ns),(b || decide (60≤ns.length)),()),()))∧(b=false→ns.length < 60→i=(ns.length:Int)):=by
 rw[Gv]
 cases b with
 | true=>exact⟨_,rfl,fun h=>by cases h⟩
 | false =>
  simp only[Bool.false_eq_true,if_false,true_and,Bool.false_or]
  by_cases h:ns.length < 60
  ·have e1:decide ((ns.length:Int)≥60)=false:=decide_eq_false (by omega)
   have e2:decide (60≤ns.length)=false:=decide_eq_false (by omega)
   rw[e1,e2,if_pos h]
   simp only[Bool.not_false,if_true]
   have hl:(ns++[x]).length=ns.length+1:=by simp
   rw[bv (by simp only[List.length_singleton]; omega),wr (by omega) (by omega)]
   exact⟨_,rfl,fun _ _=>by omega⟩
  ·have e1:decide ((ns.length:Int)≥60)=true:=decide_eq_true (by omega)
   have e2:decide (60≤ns.length)=true:=decide_eq_true (by omega)
   rw[e1,e2,if_neg h]
   exact⟨_,rfl,fun _ h'=>absurd h' h⟩
theorem GO {x:aa} {s:ak} {a:Int} {b:Bool} {ns:List aa} (hn:ns.length≤1000) (hx:x.2.2.1.2.2.1.size≤9223372036854775807) :
  bT x (ba s) a b ns=some (((ns.length:Int),()),((ba s,a,(b || decide (60≤ns.length) || !du x),ns++[x],()),())):=by
 rw[Km,bv (by simp only[List.length_singleton]; omega)]
 have e:IntKind.i64.wrap (((ns++[x]).length:Int) - 1)=(ns.length:Int):=by
  rw[List.length_append,List.length_singleton,wr (by omega) (by omega)]
  omega
 rw[e,A6 hx]
 simp only[Option.bind_some]
 by_cases h:60≤ns.length
 ·rw[az (by rw[List.length_append,List.length_singleton]; omega)]
  simp[h]
 ·rw[aw (by rw[List.length_append,List.length_singleton]; omega)]
  cases du x <;> simp[h]
theorem GP (c:UInt8) (t:ak) : ∀ pre:ak,c ∉ pre→Lib.indexByte (pre++c :: t) c=(pre.length:Int)
 | [],_=>by simp[Lib.indexByte]
 | b :: pre,h=>by
  simp only[List.mem_cons,not_or] at h
  have hb : ¬b=c:=fun e=>h.1 e.symm
  have ih:=GP c t pre h.2
  simp only[List.cons_append,Lib.indexByte,ih]
  have : ¬((pre.length:Int) = -1):=by omega
  simp[hb,this]
theorem Ld (c:UInt8) : ∀ pre:ak,c ∉ pre→Lib.indexByte pre c = -1
 | [],_=>rfl
 | b :: pre,h=>by
  simp only[List.mem_cons,not_or] at h
  have hb : ¬b=c:=fun e=>h.1 e.symm
  simp only[Lib.indexByte,Ld c pre h.2]
  simp[hb]
theorem U7 {c:UInt8} {pre t:ak} (h:c ∉ pre):Lib.cut (pre++c :: t) [c]=(pre,t,true):=by
 unfold Lib.cut
 rw[Lib.index_one,GP c t pre h,if_pos (by omega)]
 simp only[Int.toNat_natCast,List.length_singleton,Prod.mk.injEq,and_true]
 refine⟨List.take_left' rfl,?_⟩
 have:pre++c :: t=(pre++[c])++t:=by simp
 rw[this,List.drop_left' (by simp)]
theorem TK {c:UInt8} {s:ak} (h:c ∉ s):Lib.cut s [c]=(s,[],false):=by
 unfold Lib.cut
 rw[Lib.index_one,Ld c s h,if_neg (by omega)]
theorem U8 {x c:ak} (hx:x.length < 4294967281):strings_Cut (ba x) (ba c)=some ((ba (Lib.cut x c).1,ba (Lib.cut x c).2.1,(Lib.cut x c).2.2,()),()):=by
 rw[Gw]
 show(if(ba x).size < 4294967281 then some (((⟨(Lib.cut (lb (ba x)) (lb (ba c))).1.toArray⟩:ByteArray),(⟨(Lib.cut (lb (ba x)) (lb (ba c))).2.1.toArray⟩:ByteArray),(Lib.cut (lb (ba x)) (lb (ba c))).2.2,()),()) else none)=_
 rw[if_pos (by rw[aN]; exact hx),eu,eu]
theorem DX (c:UInt8) : ∀ s:ak,c∈s → ∃ pre t,s=pre++c :: t∧c ∉ pre
 | b :: s,h=>by
  by_cases hb:b=c
  ·exact⟨[],s,by rw[hb]; rfl,by simp⟩
  ·obtain⟨pre,t,h1,h2⟩:=DX c s (by rcases List.mem_cons.1 h with e | e; exact absurd e.symm hb; exact e)
   exact⟨b :: pre,t,by rw[h1]; rfl,by simp only[List.mem_cons,not_or]; exact⟨Ne.symm hb,h2⟩⟩
def qt:ak→Option (ak×ak)
 | []=>none
 | c :: l=>if c=34 then(match l with
   | []=>some ([],[])
   | d :: l'=>if d=34 then(qt l').map (fun p=>(34 :: p.1,p.2)) else some ([],d :: l'))
  else(qt l).map fun p=>(c :: p.1,p.2)
theorem DY {c:UInt8} {l:ak} (h:c≠34):qt (c :: l)=(qt l).map fun p=>(c :: p.1,p.2):=by
 rw[qt.eq_def]
 simp only[if_neg h]
theorem Le:qt [34]=some ([],[]):=by
 rw[qt.eq_def]
 rfl
theorem Lf {l:ak}:qt (34 :: 34 :: l)=(qt l).map fun p=>(34 :: p.1,p.2):=by
 rw[qt.eq_def]
 rfl
theorem GQ {d:UInt8} {l:ak} (h:d≠34):qt (34 :: d :: l)=some ([],d :: l):=by
 rw[qt.eq_def]
 simp only[if_true,if_neg h]
theorem Lg (l:ak) : ∀ pre:ak,(34:UInt8) ∉ pre→qt (pre++l)=(qt l).map fun p=>(pre++p.1,p.2)
 | [],_=>by simp
 | b :: pre,h=>by
  simp only[List.mem_cons,not_or] at h
  have hb : ¬b=34:=fun e=>h.1 e.symm
  rw[List.cons_append,DY hb,Lg l pre h.2,Option.map_map]
  rfl
theorem U9 {s:ak} (h:(34:UInt8) ∉ s):qt s=none:=by
 have:=Lg [] s h
 rw[List.append_nil] at this
 rw[this]
 rfl
theorem RR : ∀(l t r:ak),qt l=some (t,r)→r <:+ l∧t.length≤l.length∧r.length < l.length:=by
 intro l
 induction hn:l.length using Nat.strongRecOn generalizing l with
 | ind n ih =>
  intro t r h
  subst hn
  cases l with
  | nil=>cases h
  | cons c l =>
   by_cases hc:c=34
   ·subst hc
    cases l with
    | nil =>
     rw[Le] at h
     cases h
     exact⟨⟨[34],rfl⟩,by simp,by simp⟩
    | cons d l' =>
     by_cases hd:d=34
     ·subst hd
      rw[Lf,Option.map_eq_some_iff] at h
      obtain⟨⟨t',r'⟩,h1,h2⟩:=h
      cases h2
      obtain⟨k1,k2,k3⟩:=ih l'.length (by simp only[List.length_cons]; omega) l' rfl t' r' h1
      refine⟨ah k1 ⟨[34,34],rfl⟩,?_,?_⟩
      ·simp only[List.length_cons]; omega
      ·simp only[List.length_cons]; omega
     ·rw[GQ hd] at h
      cases h
      exact⟨⟨[34],rfl⟩,by simp,by simp⟩
   ·rw[DY hc,Option.map_eq_some_iff] at h
    obtain⟨⟨t',r'⟩,h1,h2⟩:=h
    cases h2
    obtain⟨k1,k2,k3⟩:=ih l.length (by simp) l rfl t' r' h1
    refine⟨ah k1 ⟨[c],rfl⟩,?_,?_⟩
    ·simp only[List.length_cons]; omega
    ·simp only[List.length_cons]; omega
abbrev nC (v:ab):aa:=(1,0,v,((0,0,()),false,false,()),((0,0,()),false,false,()),([]:(List Int)),())
noncomputable def iQ (out:ak) (r:ByteArray) (b:Bool) (ns:List aa):Option (ak×ak)→Option ((Int×Unit)×(p8×Unit))
 | none=>some ((-1,()),((r,ns,true,()),()))
 | some p=>bJ (2,0,ba (out++p.1),()) (ba p.2) b ns
theorem Cb {F:Option ((Int×Unit)×(p8×Unit))}:(F.bind fun z3=>(some ((z3.1.1,()),(z3.2.1,()))))=F:=by
 cases F with
 | none=>rfl
 | some z=>rfl
theorem ga {F:Option ((Int×Unit)×(ko×Unit))}:(F.bind fun z3=>(some ((z3.1.1,()),(z3.2.1,()))))=F:=by
 cases F with
 | none=>rfl
 | some z=>rfl
theorem Lh {r:ByteArray} {b:Bool} {ns:List aa} : ∀(x out:ak),out.length+x.length≤1000→jh (ba out) (ba x) r b ns=iQ out r b ns (qt x):=by
 intro x
 induction hn:x.length using Nat.strongRecOn generalizing x with
 | ind n ih =>
  intro out hl
  rw[yO,show(⟨#[34]⟩:ByteArray)=ba [34] from rfl,U8 (by omega)]
  simp only[Option.bind_some]
  by_cases hm:(34:UInt8)∈x
  ·obtain⟨pre,t,h1,h2⟩:=DX 34 x hm
   have hx:x.length=pre.length+t.length+1:=by rw[h1]; simp; omega
   rw[h1,U7 h2,Lg _ pre h2]
   simp only[Bool.not_true,Bool.false_eq_true,if_false]
   rw[br (by omega),rH t [34] (by omega)]
   simp only[Option.bind_some,Cb]
   cases t with
   | nil =>
    rw[Le,show([34]:ak).isPrefixOf ([]:ak)=false from rfl]
    simp[iQ]
   | cons d l' =>
    by_cases hd:d=34
    ·subst hd
     rw[List.length_cons] at hx
     have e1:([34]:ak).isPrefixOf (34 :: l')=true:=by rw[fW]; rfl
     rw[e1]
     simp only[Bool.not_true,Bool.false_eq_true,if_false]
     rw[br (by simp only[List.length_append,List.length_singleton]; omega),show(1:Int)=((1:Nat):Int) from rfl,fN (by simp)]
     simp only[List.drop_succ_cons,List.drop_zero]
     rw[ih l'.length (by omega) l' rfl (out++pre++[34]) (by simp only[List.length_append,List.length_singleton]; omega)]
     rw[Lf]
     cases qt l' with
     | none=>rfl
     | some p=>simp[iQ]
    ·have e1:([34]:ak).isPrefixOf (d :: l')=false:=by rw[fW]; simp[hd]
     rw[e1]
     simp only[Bool.not_false,if_true]
     rw[GQ hd]
     simp[iQ]
  ·rw[TK hm,U9 hm]
   rfl
theorem FL {l:ak} {b:Bool} {ns:List aa} (hl:l.length≤900):jr (ba (34 :: l)) b ns=iQ [] (ba (34 :: l)) b ns (qt l):=by
 rw[Cj,show(1:Int)=((1:Nat):Int) from rfl,fN (by simp)]
 exact Lh l [] (by simp; omega)
noncomputable def sQ (acc s:ak) (b:Bool) (ns:List aa):Option (ak×ak)→Option ((Int×Unit)×(ko×Unit))
 | none=>some ((0,()),((ba s,bF s [],true,ns,()),()))
 | some p=>bT (nC (2,0,ba (acc++p.1),())) (ba s) (bF s p.2) b ns
theorem PT {s:ak} {b:Bool} {ns:List aa} (hs:s.length≤900) : ∀(l acc:ak),l <:+ s→acc.length+l.length≤1000→ke (ba acc) (ba s) (bF s l) b ns=sQ acc s b ns (qt l):=by
 intro l
 induction hn:l.length using Nat.strongRecOn generalizing l with
 | ind n ih =>
  intro acc h ha
  subst hn
  rw[DG]
  cases l with
  | nil =>
   rw[aw (by rw[aN]; unfold bF; simp)]
   rfl
  | cons c l =>
   obtain⟨pre,h1,h2⟩:=nI h
   have hl:pre.length+l.length+1=s.length:=by rw[h1]; simp; omega
   rw[List.length_cons] at ha
   have h':l <:+ s:=ah ⟨[c],rfl⟩ h
   have e1:(pre.length:Int)+1=bF s l:=by
    unfold bF
    omega
   rw[h2,az (by rw[aN]; omega),kk h1,wr (by omega) (by omega)]
   by_cases hc:c=34
   ·subst hc
    have e34:(((34:UInt8).toNat:Int) != 34)=false:=rfl
    rw[e34,e1]
    simp only[Bool.false_eq_true,if_false,ga]
    cases l with
    | nil =>
     rw[Le,az (by rw[aN]; unfold bF; simp)]
     simp[sQ]
    | cons d l' =>
     obtain⟨DM,k1,k2⟩:=nI h'
     have hl2:DM.length+l'.length+1=s.length:=by rw[k1]; simp; omega
     rw[List.length_cons] at ha
     have h'':l' <:+ s:=ah ⟨[d],rfl⟩ h'
     have e2:(DM.length:Int)+1=bF s l':=by
      unfold bF
      omega
     rw[k2,aw (by rw[aN]; omega),kk k1]
     by_cases hd:d=34
     ·subst hd
      rw[e34,Lf]
      simp only[Bool.false_eq_true,if_false]
      rw[show(⟨#[34]⟩:ByteArray)=ba [34] from rfl,br (by simp only[List.length_singleton]; omega),wr (by omega) (by omega),e2,ih l'.length (by simp only[List.length_cons]; omega) l' rfl (acc++[34]) h'' (by simp only[List.length_append,List.length_singleton]; omega)]
      cases qt l' with
      | none=>rfl
      | some p=>simp[sQ]
     ·have hd':((d.toNat:Int) != 34)=true:=by
       simp only[bne_iff_ne,ne_eq]
       intro e
       apply hd
       apply UInt8.toNat_inj.1
       show d.toNat=34
       omega
      rw[hd',GQ hd]
      simp only[if_true]
      rw[←k2]
      simp[sQ]
   ·have hc':((c.toNat:Int) != 34)=true:=by
     simp only[bne_iff_ne,ne_eq]
     intro e
     apply hc
     apply UInt8.toNat_inj.1
     show c.toNat=34
     omega
    rw[hc']
    simp only[if_true]
    rw[show(pre.length:Int)+1=((pre.length+1:Nat):Int) by omega,xE (by omega) (by omega)]
    have e3:(s.take (pre.length+1)).drop pre.length=[c]:=by
     rw[h1,List.take_append,List.drop_append]
     simp
    rw[e3,br (by simp only[List.length_singleton]; omega),show((pre.length+1:Nat):Int)=bF s l by omega,ih l.length (by simp) l rfl (acc++[c]) h' (by simp only[List.length_append,List.length_singleton]; omega)]
    rw[DY hc]
    cases qt l with
    | none=>rfl
    | some p=>simp[sQ]
theorem TL {s l:ak} {b:Bool} {ns:List aa} (hs:s.length≤900) (h:l <:+ s):yp (ba s) (bF s l) b ns=sQ [] s b ns (qt l):=by
 rw[Iy]
 have:=aF h
 exact PT hs l [] h (by simp; omega)
def n9 (n:Int):ak:=(lb (dp n)).drop 1
abbrev xM:List Int:=[1,2,3,4,5]
def xN (l:ak) (n:Int):Bool:=(n9 n).isPrefixOf l
theorem RU {pre ys:List Int} {k:Int} (h:xM=pre++k :: ys):k=(pre.length:Int)+1∧1≤k∧k≤5∧dp k=ba (35 :: n9 k)∧(n9 k).length≤10:=by
 have h1:xM[pre.length]? = some k:=by rw[h]; simp
 have hl:pre.length < 5:=by
  have:(xM).length=5:=rfl
  have h2:=congrArg List.length h
  simp at h2
  omega
 have : ∀ i:Fin 5,∀ k,xM[i.val]? = some k→k=(i.val:Int)+1:=by
  intro i k h
  have : ∀ i:Fin 5,xM[i.val]? = some ((i.val:Int)+1):=by decide
  rw[this i] at h
  exact(Option.some.inj h).symm
 have e:=this ⟨pre.length,hl⟩ k h1
 simp only at e
 have f : ∀ i:Fin 5,dp ((i.val:Int)+1)=ba (35 :: n9 ((i.val:Int)+1))∧(n9 ((i.val:Int)+1)).length≤10:=by decide +kernel
 have:=f ⟨pre.length,hl⟩
 simp only at this
 rw[←e] at this
 exact⟨e,by omega,by omega,this.1,this.2⟩
theorem Ic {deep:Int} {l:ak} {b:Bool} {ns:List aa} (hl:l.length≤900) : ∀(ys pre:List Int),xM=pre++ys→dt deep ((pre.length:Int)+1) (ba (35 :: l)) b ns=match ys.find? (xN l) with
  | some n=>bJ (vE n) (ba (l.drop (n9 n).length)) b ns
  | none=>dt deep 6 (ba (35 :: l)) b ns
 | [],pre,h=>by
  have:pre.length=5:=by
   rw[List.append_nil] at h
   rw[←h]
   rfl
  rw[this]
  rfl
 | k :: ys,pre,h=>by
  obtain⟨e1,e2,e3,e4,e5⟩:=RU h
  rw[←e1,rA,az e3,rS (by omega) e3]
  simp only[Option.bind_some]
  rw[e4,rI _ _ (by rw[List.length_cons]; omega)]
  simp only[Option.bind_some,List.find?_cons]
  have e6:(35 :: n9 k:ak).isPrefixOf (35 :: l)=xN l k:=by simp[xN]
  rw[e6]
  cases hp:xN l k with
  | true =>
   simp only[if_true,gx,Option.bind_some,Cb,List.length_cons,List.drop_succ_cons]
  | false =>
   simp only[Bool.false_eq_true,if_false]
   rw[wr (by omega) (by omega)]
   have:=Ic (deep:=deep) (b:=b) (ns:=ns) hl ys (pre++[k]) (av h)
   rw[List.length_append,List.length_singleton] at this
   rw[show k+1=((pre.length+1:Nat):Int)+1 by omega]
   exact this
theorem Ie {s l:ak} {b:Bool} {ns:List aa} (hs:s.length≤900) (hl:l <:+ s) : ∀(ys pre:List Int),xM=pre++ys→io ((pre.length:Int)+1) (ba s) (bF s l) b ns=match ys.find? (xN l) with
  | some n=>bT (nC (vE n)) (ba s) (bF s (l.drop (n9 n).length)) b ns
  | none=>some ((0,()),((ba s,bF s l,true,ns,()),()))
 | [],pre,h=>by
  have:pre.length=5:=by
   rw[List.append_nil] at h
   rw[←h]
   rfl
  rw[this,t7,aw (by decide)]
  rfl
 | k :: ys,pre,h=>by
  obtain⟨e1,e2,e3,e4,e5⟩:=RU h
  obtain⟨q,h1,h2⟩:=nI hl
  have hq:q.length+l.length=s.length:=by rw[h1]; simp
  rw[←e1,t7,az e3,yV (by omega) e3]
  simp only[Option.bind_some]
  rw[e4,show(1:Int)=((1:Nat):Int) from rfl,fN (by simp)]
  simp only[List.drop_succ_cons,List.drop_zero,aN,List.find?_cons]
  have ih:=Ie (b:=b) (ns:=ns) hs hl ys (pre++[k]) (av h)
  rw[List.length_append,List.length_singleton,show((pre.length+1:Nat):Int)+1=k+1 by omega] at ih
  have hw:IntKind.i64.wrap (k+((1:Nat):Int))=k+1:=wr (by omega) (by omega)
  rw[hw,h2,wr (by omega) (by omega)]
  by_cases hm:(n9 k).length≤l.length
  ·rw[az (by omega),show(q.length:Int)+((n9 k).length:Int)=((q.length+(n9 k).length:Nat):Int) by omega,xE (by omega) (by omega),dD]
   have e:(s.take (q.length+(n9 k).length)).drop q.length=l.take (n9 k).length:=by
    rw[h1,List.take_append,List.drop_append]
    simp
   have e7:decide (l.take (n9 k).length=n9 k)=xN l k:=by
    unfold xN
    rw[Bool.eq_iff_iff,decide_eq_true_eq,List.isPrefixOf_iff_prefix,List.prefix_iff_eq_take]
    exact eq_comm
   rw[e,e7]
   cases hp:xN l k with
   | true =>
    simp only[if_true,dj,Option.bind_some,ga]
    congr 1
    unfold bF
    rw[List.length_drop]
    omega
   | false =>
    simp only[Bool.false_eq_true,if_false]
    rw[←h2]
    exact ih
  ·rw[aw (by omega)]
   have hp:xN l k=false:=by
    rw[Bool.eq_false_iff]
    intro hp
    exact hm (B9 hp)
   rw[hp,←h2]
   exact ih
def fO (k:Int):ak:=([[],[83,85,77],[77,73,78],[77,65,88],[67,79,85,78,84],[73,70],[65,78,68],[79,82],[78,79,84],[65,66,83],[76,69,78]]:List ak).getD k.toNat []
abbrev mZ:List Int:=[1,2,3,4,5,6,7,8,9,10]
theorem RX (k:Fin 11):List.getD ([(⟨#[]⟩:ByteArray),(⟨#[83,85,77]⟩:ByteArray),(⟨#[77,73,78]⟩:ByteArray),(⟨#[77,65,88]⟩:ByteArray),(⟨#[67,79,85,78,84]⟩:ByteArray),(⟨#[73,70]⟩:ByteArray),(⟨#[65,78,68]⟩:ByteArray),(⟨#[79,82]⟩:ByteArray),(⟨#[78,79,84]⟩:ByteArray),(⟨#[65,66,83]⟩:ByteArray),(⟨#[76,69,78]⟩:ByteArray)]:(List ByteArray)) k.val (⟨#[]⟩:ByteArray)=ba (fO (k.val:Int)):=by
 revert k
 decide +kernel
theorem Li {k:Int} (h0:0≤k) (h1:k≤10):I8 k=some ((ba (fO k),()),()):=by
 rw[Tc,bu h0 (by show k < 11; omega)]
 have h:=RX ⟨k.toNat,by omega⟩
 simp only[Int.toNat_of_nonneg h0] at h
 rw[h]
theorem FM {k:Int} (h0:0≤k) (h1:k≤10):BW k=some ((ba (fO k),()),()):=by
 rw[Pb,bu h0 (by show k < 11; omega)]
 have h:=RX ⟨k.toNat,by omega⟩
 simp only[Int.toNat_of_nonneg h0] at h
 rw[h]
theorem RY {pre ys:List Int} {k:Int} (h:mZ=pre++k :: ys):k=(pre.length:Int)+1∧1≤k∧k≤10:=by
 have h1:mZ[pre.length]? = some k:=by rw[h]; simp
 have hl:pre.length < 10:=by
  have h2:=congrArg List.length h
  simp at h2
  omega
 have : ∀ i:Fin 10,mZ[i.val]? = some ((i.val:Int)+1):=by decide
 rw[this ⟨pre.length,hl⟩] at h1
 have e:=(Option.some.inj h1).symm
 simp only at e
 exact⟨e,by omega,by omega⟩
theorem Lj {deep:Int} {w l:ak} {b:Bool} {ns:List aa} : ∀(ys pre:List Int),mZ=pre++ys→dC deep (ba w) ((pre.length:Int)+1) (ba l) b ns=match ys.find? (fun k=>decide (fO k=w)) with
  | some k=>gV k deep (ba l) b ns
  | none=>some ((-1,()),((ba l,ns,true,()),()))
 | [],pre,h=>by
  have:pre.length=10:=by
   rw[List.append_nil] at h
   rw[←h]
   rfl
  rw[this,pK,aw (by decide)]
  rfl
 | k :: ys,pre,h=>by
  obtain⟨e1,e2,e3⟩:=RY h
  rw[←e1,pK,az e3,FM (by omega) e3]
  simp only[Option.bind_some,dD,List.find?_cons,Cb]
  by_cases hp:fO k=w
  ·rw[az hp.symm]
   simp[hp]
  ·rw[aw (Ne.symm hp),wr (by omega) (by omega)]
   have:=Lj (deep:=deep) (w:=w) (l:=l) (b:=b) (ns:=ns) ys (pre++[k]) (av h)
   rw[List.length_append,List.length_singleton,show((pre.length+1:Nat):Int)+1=k+1 by omega] at this
   rw[this]
   simp[hp]
noncomputable def qo (w s:ak) (a:Int) (b:Bool) (ns:List aa):Option ((Int×Unit)×(ko×Unit)) :=
 if(bo w).2=true∧w≠[] then bT (nC (bo w).1) (ba s) a b ns
 else if(cG w).2=true then bT (2,0,(0,0,(⟨#[]⟩:ByteArray),()),(cG w).1,((0,0,()),false,false,()),([]:(List Int)),()) (ba s) a b ns
 else some ((0,()),((ba s,a,true,ns,()),()))
theorem PU {w s:ak} {a:Int} {b:Bool} {ns:List aa} (hw:w.length≤1000):fb (ba w) 11 (ba s) a b ns=qo w s a b ns:=by
 rw[t8,aw (by decide),rY (by omega),rX (by omega)]
 simp only[Option.bind_some,ga]
 have e0:(ByteArray.toList (ba w) == ByteArray.toList (⟨#[]⟩:ByteArray))=decide (w=[]):=dD (b:=[])
 rw[e0]
 unfold qo
 cases (bo w).2 <;> by_cases hw0:w=[] <;> cases (cG w).2 <;> simp[hw0]
theorem Ll {w s:ak} {ns:List aa} (hw:w.length≤1000) (hs:s.length≤900) : ∀(ys pre:List Int) (l:ak),mZ=pre++ys→l <:+ s → ∃ l',(l'=l∨l'=bl l)∧fb (ba w) ((pre.length:Int)+1) (ba s) (bF s l) false ns=match ys.find? (fun k=>decide (fO k=w) && ([40]:ak).isPrefixOf (bl l)) with
  | some k=>yq k (ba s) (bF s ((bl l).drop 1)) false ns
  | none=>qo w s (bF s l') false ns
 | [],pre,l,h,hl=>by
  have:pre.length=10:=by
   rw[List.append_nil] at h
   rw[←h]
   rfl
  refine⟨l,.inl rfl,?_⟩
  rw[this]
  exact PU hw
 | k :: ys,pre,l,h,hl=>by
  obtain⟨e1,e2,e3⟩:=RY h
  have ih:=fun l' (hl':l' <:+ s)=>Ll (ns:=ns) hw hs ys (pre++[k]) l' (av h) hl'
  rw[List.length_append,List.length_singleton,show((pre.length+1:Nat):Int)+1=k+1 by omega] at ih
  rw[←e1,t8,az e3,Li (by omega) e3]
  simp only[Option.bind_some,dD,List.find?_cons,ga]
  by_cases hp:fO k=w
  ·rw[az hp,show(⟨#[40]⟩:ByteArray)=ba [40] from rfl,hH (by omega) (by decide) hl]
   simp only[Option.bind_some,Bool.not_false,Bool.true_and,hp,decide_true]
   cases hq:([40]:ak).isPrefixOf (bl l) with
   | true=>exact⟨l,.inl rfl,rfl⟩
   | false =>
    simp only[Bool.false_eq_true,if_false]
    rw[wr (by omega) (by omega)]
    obtain⟨l',h1,h2⟩:=ih (bl l) (ah (au l) hl)
    rw[dz] at h1 h2
    refine⟨l',.inr (by simpa using h1),?_⟩
    rw[h2,hq]
  ·rw[aw hp,wr (by omega) (by omega)]
   obtain⟨l',h1,h2⟩:=ih l hl
   refine⟨l',h1,?_⟩
   rw[h2]
   simp[hp]
theorem lL (p:UInt8→Bool) (l:ak):(l.takeWhile p).length≤l.length:=(List.takeWhile_prefix p).length_le
abbrev nP (p:bS):aa:=(2,0,(0,0,(⟨#[]⟩:ByteArray),()),p,((0,0,()),false,false,()),([]:(List Int)),())
abbrev nA (p q:bS):aa:=(3,0,(0,0,(⟨#[]⟩:ByteArray),()),p,q,([]:(List Int)),())
noncomputable def hJ (deep:Int) (w r:ak) (b:Bool) (ns:List aa):Option ((Int×Unit)×(p8×Unit)) :=
 if(bo w).2=true∧((bo w).1.1=1∨(bo w).1.1=3) then bJ (bo w).1 (ba r) b ns
 else if(cG w).2=true then aR (nP (cG w).1) (ba r) b ns
 else match mZ.find? (fun k=>decide (fO k=w)) with
  | some k=>gV k deep (ba r) b ns
  | none=>some ((-1,()),((ba r,ns,true,()),()))
theorem iR {F:Option ((Int×Unit)×(p8×Unit))}:(F.bind fun z3=>(some ((z3.1.1,()),(z3.2.1,()))))=F:=Cb
theorem RZ {deep:Int} {w l:ak} {b:Bool} {ns:List aa}:dC deep (ba w) 1 (ba l) b ns=match mZ.find? (fun k=>decide (fO k=w)) with
  | some k=>gV k deep (ba l) b ns
  | none=>some ((-1,()),((ba l,ns,true,()),())):=Lj mZ [] rfl
theorem Wp {deep:Int} {l:ak} {b:Bool} {ns:List aa} (hl:l.length≤900):dt deep 6 (ba l) b ns=hJ deep ((bl l).takeWhile aX) ((bl l).dropWhile aX) b ns:=by
 have h1:=aF (au l)
 have h2:((bl l).takeWhile aX).length≤(bl l).length:=lL aX (bl l)
 rw[rA,aw (by decide),zi (by omega)]
 simp only[Option.bind_some]
 rw[ng (by omega),nf (by omega)]
 simp only[Option.bind_some,iR,RZ]
 unfold hJ
 cases (bo ((bl l).takeWhile aX)).2 with
 | false=>simp
 | true =>
  by_cases k1:(bo ((bl l).takeWhile aX)).1.1=1
  ·simp[k1]
  ·by_cases k3:(bo ((bl l).takeWhile aX)).1.1=3
   ·simp[k3]
   ·simp[k1,k3]
theorem Lm {deep:Int} {l:ak} {b:Bool} {ns:List aa} (hl:l.length≤900):oV deep (ba l) b ns =
  if(bl l).head? = some 34 then jr (ba (bl l)) b ns
  else if(bl l).head? = some 35 then dt deep 1 (ba (bl l)) b ns
  else if(bl l).head? = some 40 then((bC 1 (IntKind.i64.wrap (deep+1)) (ba ((bl l).drop 1)) b ns).bind fun z6=>(if z6.2.1.2.2.1=true then(some ((z6.1.1,()),((z6.2.1.1,z6.2.1.2.1,true,()),()))) else((bz (⟨#[41]⟩:ByteArray) z6.2.1.1 z6.2.1.2.2.1 z6.2.1.2.1).bind fun z7=>(some ((z6.1.1,()),((z7.2.1.1,z7.2.1.2.1,(!z7.1.1),()),()))))))
  else hJ deep ((bl l).takeWhile aX) ((bl l).dropWhile aX) b ns:=by
 have h1:=aF (au l)
 have h2:((bl l).takeWhile aX).length≤(bl l).length:=lL aX (bl l)
 rw[E9,pB]
 simp only[Option.bind_some]
 rw[show(⟨#[34]⟩:ByteArray)=ba [34] from rfl,rH _ _ (by omega),show(⟨#[35]⟩:ByteArray)=ba [35] from rfl,rH _ _ (by omega),show(⟨#[40]⟩:ByteArray)=ba [40] from rfl,dT (by omega)]
 simp only[Option.bind_some,iR,DL,dz,mY (c:=40) (.inr (.inl rfl)),decide_eq_true_eq,List.length_singleton]
 by_cases c1:(bl l).head? = some 34
 ·rw[if_pos c1,if_pos c1]
 ·rw[if_neg c1,if_neg c1]
  by_cases c2:(bl l).head? = some 35
  ·rw[if_pos c2,if_pos c2]
  ·rw[if_neg c2,if_neg c2]
   by_cases c3:(bl l).head? = some 40
   ·rw[if_pos c3,if_pos c3,if_pos c3]
   ·rw[if_neg c3,if_neg c3,if_neg c3,zi (by omega),dz]
    simp only[Option.bind_some]
    rw[ng (by omega),nf (by omega)]
    simp only[Option.bind_some,iR,RZ]
    unfold hJ
    cases (bo ((bl l).takeWhile aX)).2 with
    | false=>simp
    | true =>
     by_cases k1:(bo ((bl l).takeWhile aX)).1.1=1
     ·simp[k1]
     ·by_cases k3:(bo ((bl l).takeWhile aX)).1.1=3
      ·simp[k3]
      ·simp[k1,k3]
def Ig (m:ak):Bool:=(cG (m.takeWhile aX)).2 && decide ((bl (m.dropWhile aX)).head? = some 58)
def jH (m:ak):ak:=bl ((bl (m.dropWhile aX)).drop 1)
theorem Lo {l:ak} {b:Bool} {ns:List aa} (hl:l.length≤900):jS (ba l) b ns =
  if Ig (bl l)=true then some ((nA (cG ((bl l).takeWhile aX)).1 (cG ((jH (bl l)).takeWhile aX)).1,true,()),((ba ((jH (bl l)).dropWhile aX),ns,(b || !(cG ((jH (bl l)).takeWhile aX)).2),()),()))
  else some (((0,0,(0,0,(⟨#[]⟩:ByteArray),()),((0,0,()),false,false,()),((0,0,()),false,false,()),([]:(List Int)),()),false,()),((ba l,ns,b,()),())):=by
 have h1:=aF (au l)
 have h2:((bl l).takeWhile aX).length≤(bl l).length:=lL aX (bl l)
 have h3:=H6 aX (bl l)
 have h4:=aF (au ((bl l).dropWhile aX))
 have h5:((bl ((bl l).dropWhile aX)).drop 1).length≤(bl ((bl l).dropWhile aX)).length:=aF (fx 1 _)
 have h6:=aF (au ((bl ((bl l).dropWhile aX)).drop 1))
 have h7:((jH (bl l)).takeWhile aX).length≤(jH (bl l)).length:=lL aX _
 have h8:(jH (bl l)).length≤((bl ((bl l).dropWhile aX)).drop 1).length:=h6
 rw[zV,zi (by omega)]
 simp only[Option.bind_some]
 rw[nf (by omega)]
 simp only[Option.bind_some]
 unfold Ig
 cases hp:(cG ((bl l).takeWhile aX)).2 with
 | false=>simp
 | true =>
  simp only[if_true,Bool.true_and]
  rw[show(⟨#[58]⟩:ByteArray)=ba [58] from rfl,dT (by omega)]
  simp only[Option.bind_some,mY (c:=58) (.inr (.inr (.inr (.inr rfl)))),List.length_singleton]
  by_cases hc:(bl ((bl l).dropWhile aX)).head? = some 58
  ·simp only[hc,decide_true,Bool.not_true,Bool.false_eq_true,if_false,if_true]
   rw[zi (by omega)]
   simp only[Option.bind_some]
   rw[show bl ((bl ((bl l).dropWhile aX)).drop 1)=jH (bl l) from rfl,nf (by omega)]
   simp only[Option.bind_some]
   cases b <;> simp
  ·simp only[hc,decide_false,Bool.not_false,if_true,Bool.false_eq_true,if_false]
end Go.Proofs.YtnodjiikdgmeaaaGreatDoor.Abs
