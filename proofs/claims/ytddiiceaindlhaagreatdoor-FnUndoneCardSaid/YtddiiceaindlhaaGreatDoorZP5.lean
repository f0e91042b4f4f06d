/- Plain laws: a right formula's text: how it begins, where its words end, what is put behind. -/
import Derived.Test.YtddiiceaindlhaaGreatDoorZP3
import Derived.Test.YtddiiceaindlhaaGreatDoorZP4
set_option linter.unusedVariables false
set_option linter.unusedSimpArgs false
set_option linter.unusedSectionVars false
namespace Go.Proofs.YtddiiceaindlhaaGreatDoor.Abs
open Go
def Rz (c:UInt8):Bool:=decide (c=43) || decide (c=45) || decide (c=42) || decide (c=47) || decide (c=38) || decide (c=61) || decide (c=60) || decide (c=62) || decide (c=41) || decide (c=44)
def yA:ac→Bool
 | []=>true
 | c :: _=>Rz c
theorem FU (c:UInt8):Rz c=true→aF c=false∧c≠32∧c≠34∧c≠58∧c≠40∧zO c=false :=
 o4 (p:=fun c=>Rz c=true→aF c=false∧c≠32∧c≠34∧c≠58∧c≠40∧zO c=false) (by decide +kernel) c
theorem NA {r:ac} (h:yA r=true):bl r=r:=by
 cases r with
 | nil=>rfl
 | cons c t=>exact List.dropWhile_cons_of_neg (by rw[(FU c h).2.2.2.2.2]; decide)
theorem NB {r:ac} (h:yA r=true):r.takeWhile aF=[]∧r.dropWhile aF=r:=by
 cases r with
 | nil=>exact⟨rfl,rfl⟩
 | cons c t =>
  have:=(FU c h).1
  exact⟨List.takeWhile_cons_of_neg (by rw[this]; decide),List.dropWhile_cons_of_neg (by rw[this]; decide)⟩
theorem RA {r:ac} (h:yA r=true):r.head? ≠ some 34∧r.head? ≠ some 58∧r.head? ≠ some 32:=by
 cases r with
 | nil=>exact⟨by decide,by decide,by decide⟩
 | cons c t =>
  obtain⟨_,h1,h2,h3,_⟩:=FU c h
  simp only[List.head?_cons,ne_eq,Option.some.injEq]
  exact⟨h2,h3,h1⟩
theorem uJ {w r:ac} (hw:w.all aF=true) (h:r.takeWhile aF=[]∧r.dropWhile aF=r):(w++r).takeWhile aF=w∧(w++r).dropWhile aF=r:=by
 rw[List.all_eq_true] at hw
 obtain⟨h1,h2⟩:=h
 rw[List.takeWhile_append_of_pos hw,List.dropWhile_append_of_pos hw,h1,h2,List.append_nil]
 exact⟨rfl,rfl⟩
theorem CK {w r:ac} (hw:w.all aF=true) (h:yA r=true):(w++r).takeWhile aF=w∧(w++r).dropWhile aF=r:=uJ hw (NB h)
theorem NC {op:Int} (h0:1≤op) (h1:op≤11) (t:ac):yA (cZ op++t)=true:=by
 have : ∀ k:Fin 12,1≤k.val→(match cZ (k.val:Int) with | []=>false | c :: _=>Rz c)=true:=by decide +kernel
 have h:=this ⟨op.toNat,by omega⟩ (by simp only; omega)
 simp only[Int.toNat_of_nonneg (show 0≤op by omega)] at h
 cases ho:cZ op with
 | nil=>rw[ho] at h; cases h
 | cons c l =>
  rw[ho] at h
  exact h
def Px (c:UInt8):Bool:=aF c || decide (c=34) || decide (c=35) || decide (c=40) || decide (c=45)
theorem L1 (c:UInt8):Px c=true→c≠32∧c≠61∧c≠62∧zO c=false :=
 o4 (p:=fun c=>Px c=true→c≠32∧c≠61∧c≠62∧zO c=false) (by decide +kernel) c
def G8:ac→Bool
 | []=>false
 | c :: _=>Px c
theorem ND {m:ac} (h:G8 m=true):bl m=m:=by
 cases m with
 | nil=>cases h
 | cons c t=>exact List.dropWhile_cons_of_neg (by rw[(L1 c h).2.2.2]; decide)
theorem p7 {m:ac} (h:G8 m=true) (r:ac):G8 (m++r)=true:=by
 cases m with
 | nil=>cases h
 | cons c t=>exact h
theorem Py {op:Int} (h0:1≤op) (h1:op≤11) {t:ac} (h:G8 t=true):dR (cZ op++t)=op:=by
 cases t with
 | nil=>cases h
 | cons c t =>
  obtain⟨_,h2,h3,_⟩:=L1 c h
  have:op=1∨op=2∨op=3∨op=4∨op=5∨op=6∨op=7∨op=8∨op=9∨op=10∨op=11:=by omega
  rcases this with rfl | rfl | rfl | rfl | rfl | rfl | rfl | rfl | rfl | rfl | rfl <;> simp[cZ,dR,gO,h2,h3]
theorem CL (op:Int):1≤cg op∧cg op≤4:=by
 unfold cg
 repeat' split
 all_goals omega
theorem H5 {r:ac} (h:r=[]∨r.head? = some 41∨r.head? = some 44):yA r=true∧dR r=0:=by
 rcases h with rfl | h | h
 ·exact⟨rfl,rfl⟩
 ·obtain⟨t,rfl⟩:=gH h
  exact⟨rfl,rfl⟩
 ·obtain⟨t,rfl⟩:=gH h
  exact⟨rfl,rfl⟩
theorem Pz {l:ac} (h:l.all dh=true):l.all aF=true:=by
 rw[List.all_eq_true] at h ⊢
 intro c hc
 unfold aF
 rw[h c hc]
 simp
theorem T2 {l:ac} (h:l.all eA=true):l.all aF=true:=by
 rw[List.all_eq_true] at h ⊢
 intro c hc
 unfold aF
 rw[h c hc]
 simp
theorem mX {p:aA} (h:ao p.1=true):(eV p).all aF=true ∧ ∃ c t,eV p=c :: t∧(c=36∨eA c=true):=by
 obtain⟨c,r,fc,fr,rfl,h1,h2,h3,h4⟩:=uD h
 have hu:(fP c).all eA=true:=FB ⟨c,by omega⟩ h1
 have hd:=AP (pR r)
 have hx : ∀ b,(o5 b).all aF=true:=by decide
 show(rx c r fc fr).all aF=true ∧ ∃ d t,rx c r fc fr=d :: t∧_
 unfold rx
 refine⟨?_,?_⟩
 ·rw[List.all_append,List.all_append,List.all_append,hx,hx,T2 hu,Pz hd]
  rfl
 ·cases fc with
  | true=>exact⟨36,_,rfl,.inl rfl⟩
  | false =>
   cases hcl:fP c with
   | nil =>
    have:=(pT c).1
    rw[hcl] at this
    simp at this
   | cons y l =>
    rw[hcl] at hu
    simp only[List.all_cons,Bool.and_eq_true] at hu
    exact⟨y,_,rfl,.inr hu.1⟩
theorem RB (c:UInt8):(c=36∨eA c=true)→c≠39∧c≠35∧c≠45∧c≠34∧c≠40∧dh c=false :=
 o4 (p:=fun c=>(c=36∨eA c=true)→c≠39∧c≠35∧c≠45∧c≠34∧c≠40∧dh c=false) (by decide +kernel) c
theorem Q4 {p:aA} (h:ao p.1=true):(br (eV p)).2=false:=by
 obtain⟨_,c,t,e,hc⟩:=mX h
 obtain⟨n1,n2,n3,_,_,n4⟩:=RB c hc
 have hp:=nM h
 have k : ∀ w:ac,(cu w).2=false→eV p≠w:=fun w hw e=>by
  rw[←e,hp] at hw
  cases hw
 have k1:=k hJ (by decide +kernel)
 have k2:=k iu (by decide +kernel)
 have hv:uE (eV p)=(9,0,eS,()):=by
  unfold uE
  rw[if_neg k1,if_neg k2,e,if_neg (by simp),if_neg (by simpa using n1),if_neg (by simpa using n2),if_neg (by simpa using n3),if_neg]
  intro hr
  unfold cB iI at hr
  simp[n4] at hr
 unfold br
 rw[hv]
 rfl
theorem PA {f:List aa} {k:Nat} {x:aa} (h:f[k]? = some x):f.take k++[x]=f.take (k+1):=by
 rw[List.take_add_one,h]
 rfl
theorem zX {f:List aa} (hf:f.length≤60) {k:Nat} {x:aa} (h:f[k]? = some x) (l:ac):ay x (ba l) false (f.take k)=some (((k:Int),()),((ba l,f.take (k+1),false,()),())):=by
 have hk:=(List.getElem?_eq_some_iff.1 h).1
 have hl:(f.take k).length=k:=by rw[List.length_take]; omega
 obtain⟨i,h1,h2⟩:=wE (x:=x) (l:=l) (b:=false) (ns:=f.take k) (by omega)
 rw[h1,h2 rfl (by omega),hl,if_pos ⟨rfl,by omega⟩,PA h,decide_eq_false (by omega)]
 rfl
def EF (f:List aa) (n:Nat) (call:Bool):List Int→Int→Int→Prop
 | [],s,e=>s=e
 | y :: ys,s,e=>(∃ h,cY f n y=some (s,h))∧(ez f y=true→call=true)∧EF f n call ys (y+1) e
theorem Kg {f:List aa} {n:Nat} {call:Bool} {kid m s e:Int} (hc : ∃ h,cY f n kid=some (m,h)) (ha:ez f kid=true→call=true) (he:kid+1=e) : ∀ {l:List Int} {s:Int},EF f n call l s m→EF f n call (l++[kid]) s e
 | [],s,h=>by
  have h:s=m:=h
  subst h
  exact⟨hc,ha,he⟩
 | y :: ys,s,h=>⟨h.1,h.2.1,Kg (s:=s) hc ha he h.2.2⟩
theorem PB {f:List aa} {n:Nat} {call:Bool} : ∀ {l:List Int} {cur:Int} {h:Nat} {s:Int} {h':Nat},d7 (cY f n) f call l cur h=some (s,h')→EF f n call l.reverse s cur
 | [],cur,h,s,h',e=>by
  simp only[d7,Option.some.injEq,Prod.mk.injEq] at e
  exact e.1.symm
 | kid :: l,cur,h,s,h',e=>by
  simp only[d7] at e
  split at e
  ·rename_i hk
   rw[Option.bind_eq_some_iff] at e
   obtain⟨p,hp,e⟩:=e
   rw[List.reverse_cons]
   exact Kg (s:=s) ⟨p.2,hp⟩ hk.2.2 (by omega) (PB e)
  ·cases e
theorem p8 {f:List aa} {n:Nat} {k s:Int} {h:Nat} (e:cY f (n+1) k=some (s,h)):0≤k ∧ ∃ x,f[k.toNat]? = some x∧ff f k=x∧bH x=true∧EF f n (decide (x.1=6)) x.2.2.2.2.2.1 s k:=by
 simp only[cY] at e
 split at e
 ·rename_i h0
  split at e
  ·cases e
  ·rename_i x hx
   split at e
   ·rename_i hok
    refine⟨h0,x,hx,?_,hok,?_⟩
    ·unfold ff
     rw[List.getD_eq_getElem?_getD,hx]
     rfl
    ·have:=PB e
     rwa[List.reverse_reverse] at this
   ·cases e
 ·cases e
theorem zY {f:List aa} {k:Int} {x:aa} (h:ff f k=x):ez f k=decide (x.1=3):=by
 unfold ff at h
 unfold ez
 rw[h]
theorem p9 {x y:aa} (h1:x.1=y.1) (h2:x.2.1=y.2.1) (h3:x.2.2.1=y.2.2.1) (h4:x.2.2.2.1=y.2.2.2.1) (h5:x.2.2.2.2.1=y.2.2.2.2.1) (h6:x.2.2.2.2.2.1=y.2.2.2.2.2.1):x=y :=
 Prod.ext h1 (Prod.ext h2 (Prod.ext h3 (Prod.ext h4 (Prod.ext h5 (Prod.ext h6 rfl)))))
theorem TD {x:aa} (h:kl x=0):x.2.2.2.2.2.1=[]:=by
 unfold kl at h
 exact List.eq_nil_of_length_eq_zero (by omega)
theorem Ul {x:aa} (h:kl x=1) : ∃ a,x.2.2.2.2.2.1=[a]:=by
 unfold kl at h
 exact List.length_eq_one_iff.1 (by omega)
theorem Um {x:aa} (h:kl x=2) : ∃ a b,x.2.2.2.2.2.1=[a,b]:=by
 unfold kl at h
 match hx:x.2.2.2.2.2.1,h with
 | [a,b],_=>exact⟨a,b,rfl⟩
inductive NK:aa→Prop
 | con (v:ax) (h:aN v=true) (h0:v.1≠0) (h1:v.1=1→0≤v.2.1):NK (nC v)
 | cell (p:aA) (h:ao p.1=true):NK (nP p)
 | area (p q:aA) (h:cf (p.1,q.1,())=true):NK (nA p q)
 | neg (a:Int):NK (4,0,v0,p0,p0,[a],())
 | bin (op a b:Int) (h0:1≤op) (h1:op≤11):NK (5,op,v0,p0,p0,[a,b],())
 | call (op:Int) (ks:List Int) (h:jW op (ks.length:Int)=true):NK (6,op,v0,p0,p0,ks,())
theorem r5 {x:aa} (h:bH x=true):NK x:=by
 unfold bH at h
 by_cases c1:x.1=1
 ·rw[if_pos c1] at h
  simp only[Bool.and_eq_true,Bool.or_eq_true,decide_eq_true_eq,Bool.not_eq_true',decide_eq_false_iff_not] at h
  obtain⟨⟨⟨⟨⟨⟨a1,a2⟩,a3⟩,a4⟩,a5⟩,a6⟩,a7⟩:=h
  have e:x=nC x.2.2.1:=p9 c1 a1 rfl a2 a3 (TD a4)
  rw[e]
  exact .con _ a5 a6 (fun k=>a7.elim (fun n=>absurd k n) id)
 ·rw[if_neg c1] at h
  by_cases c2:x.1=2
  ·rw[if_pos c2] at h
   simp only[Bool.and_eq_true,decide_eq_true_eq] at h
   obtain⟨⟨⟨⟨a1,a2⟩,a3⟩,a4⟩,a5⟩:=h
   have e:x=nP x.2.2.2.1:=p9 c2 a1 a2 rfl a3 (TD a4)
   rw[e]
   exact .cell _ a5
  ·rw[if_neg c2] at h
   by_cases c3:x.1=3
   ·rw[if_pos c3] at h
    simp only[Bool.and_eq_true,decide_eq_true_eq] at h
    obtain⟨⟨⟨a1,a2⟩,a4⟩,a5⟩:=h
    have e:x=nA x.2.2.2.1 x.2.2.2.2.1:=p9 c3 a1 a2 rfl rfl (TD a4)
    rw[e]
    exact .area _ _ a5
   ·rw[if_neg c3] at h
    by_cases c4:x.1=4
    ·rw[if_pos c4] at h
     simp only[Bool.and_eq_true,decide_eq_true_eq] at h
     obtain⟨⟨⟨⟨a1,a2⟩,a3⟩,a4⟩,a5⟩:=h
     obtain⟨a,ha⟩:=Ul a5
     have e:x=(4,0,v0,p0,p0,[a],()):=p9 c4 a1 a2 a3 a4 ha
     rw[e]
     exact .neg a
    ·rw[if_neg c4] at h
     by_cases c5:x.1=5
     ·rw[if_pos c5] at h
      simp only[Bool.and_eq_true,decide_eq_true_eq] at h
      obtain⟨⟨⟨⟨a1,a2⟩,a3⟩,a4⟩,a5⟩:=h
      obtain⟨a,b,ha⟩:=Um a5
      obtain⟨g0,g1⟩:=bd.1 a1
      have e:x=(5,x.2.1,v0,p0,p0,[a,b],()):=p9 c5 rfl a2 a3 a4 ha
      rw[e]
      exact .bin _ a b g0 g1
     ·rw[if_neg c5] at h
      by_cases c6:x.1=6
      ·rw[if_pos c6] at h
       simp only[Bool.and_eq_true,decide_eq_true_eq] at h
       obtain⟨⟨⟨a1,a2⟩,a3⟩,a4⟩:=h
       have e:x=(6,x.2.1,v0,p0,p0,x.2.2.2.2.2.1,()):=p9 c6 rfl a2 a3 a4 rfl
       rw[e]
       exact .call _ _ a1
      ·rw[if_neg c6] at h
       cases h
end Go.Proofs.YtddiiceaindlhaaGreatDoor.Abs
set_option linter.unusedVariables false
set_option linter.unusedSimpArgs false
set_option linter.unusedSectionVars false
namespace Go.Proofs.YtddiiceaindlhaaGreatDoor.Abs
open Go
theorem TE {deep:Int} {l:ac} {ns:List aa} (h0:0≤deep) (h1:deep+(l.length:Int)≤400) (h:(bl l).head? = some 45) :
  eD deep (ba l) false ns=(eD (deep+1) (ba ((bl l).drop 1)) false ns).bind fun z=>ay (Nk z.1.1) z.2.1.1 z.2.1.2.2.1 z.2.1.2.1:=by
 rw[jE,aE (by omega)]
 simp only[Bool.false_eq_true,if_false,fQ]
 rw[show(⟨#[45]⟩:ByteArray)=ba [45] from rfl,cC (by omega)]
 simp only[Option.bind_some,gv (c:=45) (.inl rfl),List.length_singleton]
 simp only[h,decide_true,if_true]
 rw[wr (by omega) (by omega)]
theorem sn {deep:Int} {l:ac} {ns:List aa} (h0:0≤deep) (h1:deep+(l.length:Int)≤400) (h:(bl l).head? ≠ some 45) :
  eD deep (ba l) false ns=fd deep (ba (bl l)) false ns:=by
 rw[jE,aE (by omega)]
 simp only[Bool.false_eq_true,if_false,fQ]
 rw[show(⟨#[45]⟩:ByteArray)=ba [45] from rfl,cC (by omega)]
 simp only[Option.bind_some,gv (c:=45) (.inl rfl),List.length_singleton]
 simp only[h,decide_false,Bool.false_eq_true,if_false]
theorem A5 {least deep left:Int} {r:ac} {ns:List aa} (hl:r.length≤400) (h:yA r=true) (ho:dR r=0∨cg (dR r) < least):cm least deep left (ba r) false ns=some ((left,()),((ba r,ns,false,()),())):=by
 rw[fe]
 simp only[Bool.not_false,if_true]
 obtain⟨o1,o2⟩:=lm (bl r)
 rw[tA (by omega),wG o1 o2 (by rw[NA h]; omega) (fun h=>by rw[dq]; exact pV h),NA h,if_pos ho]
theorem T3 {least deep left op:Int} {t:ac} {ns:List aa} (h0:1≤op) (h1:op≤11) (ht:G8 t=true) (hl:t.length≤390) (hv:least≤cg op) :
  cm least deep left (ba (cZ op++t)) false ns=(bh (cg op+1) deep (ba t) false ns).bind fun z7=>((ay (5,op,(0,0,(⟨#[]⟩:ByteArray),()),((0,0,()),false,false,()),((0,0,()),false,false,()),([left,z7.1.1]:(List Int)),()) z7.2.1.1 z7.2.1.2.2.1 z7.2.1.2.1).bind fun z8=>(cm least deep z8.1.1 z8.2.1.1 z8.2.1.2.2.1 z8.2.1.2.1)):=by
 have hs:=NC h0 h1 t
 have hb:=NA hs
 have ho:=Py h0 h1 ht
 have hln:=wD op
 have hll:(cZ op++t).length≤400:=by rw[List.length_append]; omega
 rw[fe]
 simp only[Bool.not_false,if_true]
 obtain⟨o1,o2⟩:=lm (bl (cZ op++t))
 rw[tA (by omega),wG o1 o2 (by rw[hb]; omega) (fun h=>by rw[dq]; exact pV h),dq,hb,ho,if_neg (by omega),List.drop_left' rfl]
theorem TF {deep:Int} {m:ac} {ns:List aa} (hl:m.length≤400):fd deep (ba (40 :: m)) false ns=((bh 1 (IntKind.i64.wrap (deep+1)) (ba m) false ns).bind fun z6=>(if z6.2.1.2.2.1=true then(some ((z6.1.1,()),((z6.2.1.1,z6.2.1.2.1,true,()),()))) else((aY (⟨#[41]⟩:ByteArray) z6.2.1.1 z6.2.1.2.2.1 z6.2.1.2.1).bind fun z7=>(some ((z6.1.1,()),((z7.2.1.1,z7.2.1.2.1,(!z7.1.1),()),())))))):=by
 have hb:bl (40 :: m)=40 :: m:=List.dropWhile_cons_of_neg (by decide)
 rw[pX (by rw[List.length_cons]; omega),hb,if_neg (by simp),if_neg (by simp),if_pos (by simp)]
 rfl
theorem L2 {r:ac} {ns:List aa} (hl:r.length≤400):aY (⟨#[41]⟩:ByteArray) (ba (41 :: r)) false ns=some ((true,()),((ba r,ns,false,()),())):=by
 have hb:bl (41 :: r)=41 :: r:=List.dropWhile_cons_of_neg (by decide)
 have hs:sg (41 :: r)=[41]:=by rw[gv (c:=41) (.inr (.inr (.inl rfl)))]; rfl
 rw[show(⟨#[41]⟩:ByteArray)=ba [41] from rfl,cC (by rw[List.length_cons]; omega),hb,hs]
 rfl
theorem Sv {r:ac} {ns:List aa} (hl:r.length≤400):aY (⟨#[44]⟩:ByteArray) (ba (44 :: r)) false ns=some ((true,()),((ba r,ns,false,()),())):=by
 have hb:bl (44 :: r)=44 :: r:=List.dropWhile_cons_of_neg (by decide)
 have hs:sg (44 :: r)=[44]:=by rw[gv (c:=44) (.inr (.inr (.inr (.inl rfl))))]; rfl
 rw[show(⟨#[44]⟩:ByteArray)=ba [44] from rfl,cC (by rw[List.length_cons]; omega),hb,hs]
 rfl
theorem Q5 {r:ac} {ns:List aa} (hl:r.length≤400):aY (⟨#[44]⟩:ByteArray) (ba (41 :: r)) false ns=some ((false,()),((ba (41 :: r),ns,false,()),())):=by
 have hb:bl (41 :: r)=41 :: r:=List.dropWhile_cons_of_neg (by decide)
 have hs : ¬sg (41 :: r)=[44]:=by rw[gv (c:=44) (.inr (.inr (.inr (.inl rfl))))]; simp
 rw[show(⟨#[44]⟩:ByteArray)=ba [44] from rfl,cC (by rw[List.length_cons]; omega),hb,if_neg hs]
 simp[hs]
theorem NE : ∀(x r:ac),r.head? ≠ some 34→qt (qT x++34 :: r)=some (x,r)
 | [],r,h=>by
  cases r with
  | nil=>exact Ek
  | cons d r =>
   have hd:d≠34:=fun e=>h (by rw[e]; rfl)
   exact AU hd
 | c :: x,r,h=>by
  unfold qT
  by_cases hc:c=34
  ·subst hc
   rw[if_pos rfl]
   show qt (34 :: 34 :: (qT x++34 :: r))=_
   rw[El,NE x r h]
   rfl
  ·rw[if_neg hc]
   show qt (c :: (qT x++34 :: r))=_
   rw[xL hc,NE x r h]
   rfl
theorem PC {deep:Int} {x r:ac} {ns:List aa} (hl:(qT x).length+r.length≤390) (hr:r.head? ≠ some 34):fd deep (ba (34 :: (qT x++34 :: r))) false ns=ay (nC (2,0,ba x,())) (ba r) false ns:=by
 have hb:bl (34 :: (qT x++34 :: r))=34 :: (qT x++34 :: r):=List.dropWhile_cons_of_neg (by decide)
 have hll:(qT x++34 :: r).length≤400:=by simp only[List.length_append,List.length_cons]; omega
 rw[pX (by rw[List.length_cons]; omega),hb,if_pos (by simp),xM (by omega),NE x r hr]
 show bD (2,0,ba ([]++x),()) (ba r) false ns=_
 rw[iv]
 rfl
theorem zZ {deep:Int} {w r:ac} {ns:List aa} (hl:w.length+r.length≤390) (hw:w.all aF=true) (hne:w≠[]) (hr:r.takeWhile aF=[]∧r.dropWhile aF=r):fd deep (ba (w++r)) false ns=eK deep w r false ns:=by
 obtain⟨c,t,rfl⟩ : ∃ c t,w=c :: t:=by
  cases w with
  | nil=>exact absurd rfl hne
  | cons c t=>exact⟨c,t,rfl⟩
 have hc:aF c=true:=by simp only[List.all_cons,Bool.and_eq_true] at hw; exact hw.1
 have hn:c≠32∧c≠34∧c≠35∧c≠40∧zO c=false:=o4 (p:=fun c=>aF c=true→c≠32∧c≠34∧c≠35∧c≠40∧zO c=false) (by decide +kernel) c hc
 have hb:bl (c :: t++r)=c :: t++r:=List.dropWhile_cons_of_neg (by rw[hn.2.2.2.2]; decide)
 obtain⟨h1,h2⟩:=uJ hw hr
 rw[pX (by rw[List.length_append]; omega),hb,h1,h2,if_neg (by simp[hn.2.1]),if_neg (by simp[hn.2.2.1]),if_neg (by simp[hn.2.2.2.1])]
theorem L3 (u:Nat):(Lib.decDigits u).all aF=true:=Pz (AP (pR u))
theorem A6 {v:ax} (h:aN v=true) (h0:v.1≠0) (h1:v.1=1→0≤v.2.1) (h2:v.1≠2):(∃ n:Fin 6,v=vE (n.val:Int)∧1≤n.val)∨((lb (cL v)).all aF=true∧lb (cL v)≠[]∧(v.1=1∨v.1=3)):=by
 rcases qp h with e | ⟨n,e,_⟩ | ⟨t,e⟩ | ⟨b,e⟩ | ⟨n,e,k⟩
 ·rw[e] at h0
  exact absurd rfl h0
 ·right
  subst e
  have hn:0≤n:=h1 rfl
  obtain⟨u,rfl⟩:=Int.eq_ofNat_of_zero_le hn
  have e:lb (cL (vN ((u:Nat):Int)))=Lib.decDigits u:=by
   show lb (dp ((u:Nat):Int))=_
   rw[ll,dw]
  rw[e]
  exact⟨L3 u,wB.1,.inl rfl⟩
 ·rw[e] at h2
  exact absurd rfl h2
 ·right
  subst e
  cases b
  ·exact⟨by decide +kernel,by decide +kernel,.inr rfl⟩
  ·exact⟨by decide +kernel,by decide +kernel,.inr rfl⟩
 ·exact .inl ⟨n,e,k⟩
theorem Q6 : ∀(n:Fin 6),1≤n.val → ∀ r:ac,o8.find? (ga (di (n.val:Int)++r))=some (n.val:Int):=by
 intro n hn r
 have e1:di 1=[68,73,86,33]∧di 2=[84,89,80,69,33]∧di 3=[82,69,70,33]:=by decide +kernel
 have hd : ∀ n m:Fin 6,1≤n.val→1≤m.val→m.val < n.val → ∃ i:Fin 10,(di (n.val:Int))[i.val]? ≠ (di (m.val:Int))[i.val]? ∧ i.val < (di (n.val:Int)).length∧i.val < (di (m.val:Int)).length:=by decide +kernel
 have no : ∀ m:Fin 6,1≤m.val→m.val < n.val→ga (di (n.val:Int)++r) (m.val:Int)=false:=by
  intro m h1 h2
  obtain⟨i,h3,h4,h5⟩:=hd n m hn h1 h2
  rw[Bool.eq_false_iff]
  intro hp
  unfold ga at hp
  obtain⟨t,ht⟩:=List.isPrefixOf_iff_prefix.1 hp
  have:=congrArg (fun l:ac=>l[i.val]?) ht
  simp only[List.getElem?_append_left h5,List.getElem?_append_left h4] at this
  exact h3 this.symm
 have yes:ga (di (n.val:Int)++r) (n.val:Int)=true:=by
  unfold ga
  rw[List.isPrefixOf_iff_prefix]
  exact⟨r,rfl⟩
 have hc:n.val=1∨n.val=2∨n.val=3∨n.val=4∨n.val=5:=by omega
 have nm : ∀ m:Nat,(h:m < 6)→1≤m→m < n.val→ga (di (n.val:Int)++r) (m:Int)=false:=fun m h h1 h2=>no ⟨m,h⟩ h1 h2
 rcases hc with h | h | h | h | h
 ·rw[h] at nm yes ⊢
  simp only[o8,List.find?_cons]
  rw[show ga (di ((1:Nat):Int)++r) 1=true from yes]
  rfl
 ·rw[h] at nm yes ⊢
  simp only[o8,List.find?_cons]
  rw[show ga (di ((2:Nat):Int)++r) 1=false from nm 1 (by decide) (by decide) (by decide),show ga (di ((2:Nat):Int)++r) 2=true from yes]
  rfl
 ·rw[h] at nm yes ⊢
  simp only[o8,List.find?_cons]
  rw[show ga (di ((3:Nat):Int)++r) 1=false from nm 1 (by decide) (by decide) (by decide),show ga (di ((3:Nat):Int)++r) 2=false from nm 2 (by decide) (by decide) (by decide),show ga (di ((3:Nat):Int)++r) 3=true from yes]
  rfl
 ·rw[h] at nm yes ⊢
  simp only[o8,List.find?_cons]
  rw[show ga (di ((4:Nat):Int)++r) 1=false from nm 1 (by decide) (by decide) (by decide),show ga (di ((4:Nat):Int)++r) 2=false from nm 2 (by decide) (by decide) (by decide),show ga (di ((4:Nat):Int)++r) 3=false from nm 3 (by decide) (by decide) (by decide),show ga (di ((4:Nat):Int)++r) 4=true from yes]
  rfl
 ·rw[h] at nm yes ⊢
  simp only[o8,List.find?_cons]
  rw[show ga (di ((5:Nat):Int)++r) 1=false from nm 1 (by decide) (by decide) (by decide),show ga (di ((5:Nat):Int)++r) 2=false from nm 2 (by decide) (by decide) (by decide),show ga (di ((5:Nat):Int)++r) 3=false from nm 3 (by decide) (by decide) (by decide),
   show ga (di ((5:Nat):Int)++r) 4=false from nm 4 (by decide) (by decide) (by decide),show ga (di ((5:Nat):Int)++r) 5=true from yes]
  rfl
theorem Q7 {deep:Int} {n:Fin 6} (hn:1≤n.val) {r:ac} {ns:List aa} (hl:r.length≤390):fd deep (ba (lb (c8 (n.val:Int))++r)) false ns=ay (nC (vE (n.val:Int))) (ba r) false ns:=by
 have f : ∀ n:Fin 6,1≤n.val→c8 (n.val:Int)=ba (35 :: di (n.val:Int))∧(di (n.val:Int)).length≤10:=by decide +kernel
 obtain⟨f1,f2⟩:=f n hn
 rw[f1,dw,List.cons_append]
 have hb:bl (35 :: (di (n.val:Int)++r))=35 :: (di (n.val:Int)++r):=List.dropWhile_cons_of_neg (by decide)
 have hll:(di (n.val:Int)++r).length≤400:=by rw[List.length_append]; omega
 rw[pX (by rw[List.length_cons]; omega),hb,if_neg (by simp),if_pos (by simp),FI (by omega),Q6 n hn r]
 simp only
 rw[iv,List.drop_left' rfl]
theorem EG {op:Int} (h0:1≤op) (h1:op≤10):(dv op).all aF=true∧dv op≠[]∧(br (dv op)).2=false∧(cu (dv op)).2=false∧ln.find? (fun k=>decide (dv k=dv op))=some op:=by
 have : ∀ k:Fin 11,1≤k.val→(dv (k.val:Int)).all aF=true∧dv (k.val:Int)≠[]∧(br (dv (k.val:Int))).2=false∧(cu (dv (k.val:Int))).2=false∧ln.find? (fun j=>decide (dv j=dv (k.val:Int)))=some (k.val:Int):=by decide +kernel
 have h:=this ⟨op.toNat,by omega⟩ (by simp only; omega)
 simpa only[Int.toNat_of_nonneg (show 0≤op by omega)] using h
theorem A7 {op k:Int} (h:jW op k=true):1≤op∧op≤10∧1≤k∧k≤10:=by
 unfold jW at h
 split at h
 ·simp only[Bool.or_eq_true,decide_eq_true_eq] at h
  omega
 ·split at h
  ·rename_i h1
   have:=bd.1 h1
   have:=bd.1 h
   omega
  ·split at h
   ·rename_i h1
    have:=bd.1 h1
    simp only[decide_eq_true_eq] at h
    omega
   ·cases h
end Go.Proofs.YtddiiceaindlhaaGreatDoor.Abs
set_option linter.unusedVariables false
set_option linter.unusedSimpArgs false
set_option linter.unusedSectionVars false
namespace Go.Proofs.YtddiiceaindlhaaGreatDoor.Abs
open Go
section
variable {f:List aa} {n:Nat} {k L:Int}
theorem A8 {v:ax} (h:ff f k=nC v):bB f (n+1) k L=if v.1=2 then 34 :: (qT (lb v.2.2.1)++[34]) else lb (cL v):=by
 conv=>lhs; unfold bB
 rw[h]
 rfl
theorem xW {p:aA} (h:ff f k=nP p):bB f (n+1) k L=eV p:=by
 conv=>lhs; unfold bB
 rw[h]
 rfl
theorem CM {p q:aA} (h:ff f k=nA p q):bB f (n+1) k L=eV p++58 :: eV q:=by
 conv=>lhs; unfold bB
 rw[h]
 rfl
theorem A9 {a:Int} (h:ff f k=(4,0,v0,p0,p0,[a],())):bB f (n+1) k L=45 :: bB f n a 5:=by
 conv=>lhs; unfold bB
 rw[h]
 rfl
def uK (f:List aa) (n:Nat) (op a b:Int):ac:=bB f n a (cg op)++(cZ op++bB f n b (cg op+1))
theorem wL {op a b:Int} (h:ff f k=(5,op,v0,p0,p0,[a,b],())):bB f (n+1) k L=if cg op < L then 40 :: (uK f n op a b++[41]) else uK f n op a b:=by
 conv=>lhs; unfold bB
 rw[h]
 rfl
theorem xX {op:Int} {ks:List Int} (h:ff f k=(6,op,v0,p0,p0,ks,())):bB f (n+1) k L=dv op++40 :: (bW (ks.map fun k=>bB f n k 1)++[41]):=by
 conv=>lhs; unfold bB
 rw[h]
 rfl
end
theorem EH {w:ac} (hw:w.all aF=true) (hne:w≠[]):G8 w=true:=by
 cases w with
 | nil=>exact absurd rfl hne
 | cons c t =>
  simp only[List.all_cons,Bool.and_eq_true] at hw
  show Px c=true
  unfold Px
  rw[hw.1]
  rfl
theorem H6 {p:aA} (h:ao p.1=true):eV p≠[]:=by
 obtain⟨_,c,t,e,_⟩:=mX h
 rw[e]
 simp
theorem dP {p q:aA} (h:cf (p.1,q.1,())=true):ao p.1=true∧ao q.1=true:=by
 unfold cf at h
 simp only[Bool.and_eq_true] at h
 exact⟨h.1.1.1,h.1.1.2⟩
theorem H7 {f:List aa} : ∀(n:Nat) (k s:Int) (h:Nat),cY f n k=some (s,h) → ∀ L,G8 (bB f n k L)=true
 | 0,k,s,h,e,L=>by cases e
 | n+1,k,s,h,e,L=>by
  obtain⟨h0,x,hx,hn,hok,hfw⟩:=p8 e
  cases r5 hok with
  | con v hv v0' v1 =>
   rw[A8 hn]
   by_cases h2:v.1=2
   ·rw[if_pos h2]
    rfl
   ·rw[if_neg h2]
    rcases A6 hv v0' v1 h2 with⟨m,rfl,hm⟩ | ⟨h3,h4,_⟩
    ·have : ∀ m:Fin 6,1≤m.val→G8 (lb (cL (vE (m.val:Int))))=true:=by decide +kernel
     exact this m hm
    ·exact EH h3 h4
  | cell p hp =>
   rw[xW hn]
   exact EH (mX hp).1 (H6 hp)
  | area p q hp =>
   rw[CM hn]
   exact p7 (EH (mX (dP hp).1).1 (H6 (dP hp).1)) _
  | neg a =>
   rw[A9 hn]
   rfl
  | bin op a b h1 h2 =>
   rw[wL hn]
   split
   ·rfl
   ·obtain⟨⟨h',hc⟩,_⟩:=hfw
    exact p7 (H7 n a s h' hc _) _
  | call op ks ha =>
   rw[xX hn]
   obtain⟨g1,g2,_⟩:=A7 ha
   obtain⟨f1,f2,_⟩:=EG g1 g2
   exact p7 (EH f1 f2) _
theorem T4 {m:ac} (h:m.head? ≠ some 32):bl m=m:=by
 cases m with
 | nil=>rfl
 | cons c t =>
  refine List.dropWhile_cons_of_neg ?_
  unfold zO
  rw[decide_eq_true_eq]
  exact fun e=>h (by rw[e]; rfl)
theorem PD {f:List aa} : ∀(n:Nat) (k s:Int) (h:Nat),cY f n k=some (s,h)→ez f k=false → ∀ L r,yA r=true→((bB f n k L++r).dropWhile aF).head? ≠ some 58∧((bB f n k L++r).dropWhile aF).head? ≠ some 32
 | 0,k,s,h,e,_,L,r,hr=>by cases e
 | n+1,k,s,h,e,har,L,r,hr=>by
  obtain⟨h0,x,hx,hn,hok,hfw⟩:=p8 e
  rw[zY hn] at har
  have hst:=RA hr
  cases r5 hok with
  | con v hv v0' v1 =>
   rw[A8 hn]
   by_cases h2:v.1=2
   ·rw[if_pos h2,List.cons_append,List.dropWhile_cons_of_neg (by decide)]
    exact⟨by simp,by simp⟩
   ·rw[if_neg h2]
    rcases A6 hv v0' v1 h2 with⟨m,rfl,hm⟩ | ⟨h3,h4,_⟩
    ·have : ∀ m:Fin 6,1≤m.val→lb (cL (vE (m.val:Int)))=35 :: di (m.val:Int):=by decide +kernel
     rw[this m hm,List.cons_append,List.dropWhile_cons_of_neg (by decide)]
     exact⟨by simp,by simp⟩
    ·rw[(CK h3 hr).2]
     exact⟨hst.2.1,hst.2.2⟩
  | cell p hp =>
   rw[xW hn,(CK (mX hp).1 hr).2]
   exact⟨hst.2.1,hst.2.2⟩
  | area p q hp=>simp at har
  | neg a =>
   rw[A9 hn,List.cons_append,List.dropWhile_cons_of_neg (by decide)]
   exact⟨by simp,by simp⟩
  | bin op a b h1 h2 =>
   rw[wL hn]
   split
   ·rw[List.cons_append,List.dropWhile_cons_of_neg (by decide)]
    exact⟨by simp,by simp⟩
   ·obtain⟨⟨h',hc⟩,ha,_⟩:=hfw
    unfold uK
    rw[List.append_assoc,List.append_assoc]
    refine PD n a s h' hc ?_ _ _ (NC h1 h2 _)
    rw[Bool.eq_false_iff]
    intro hh
    have:=ha hh
    simp at this
  | call op ks ha =>
   rw[xX hn]
   obtain⟨g1,g2,_⟩:=A7 ha
   obtain⟨f1,f2,_⟩:=EG g1 g2
   rw[List.append_assoc,(uJ f1 (r:=40 :: (bW (ks.map fun k=>bB f n k 1)++[41])++r) ⟨rfl,rfl⟩).2]
   exact⟨by simp,by simp⟩
def CN (x:aa) (L:Int):Bool:=decide (x.1=5) && !decide (cg x.2.1 < L)
def Uf (f:List aa) (n:Nat):Prop := ∀(k s:Int) (h:Nat),cY f n k=some (s,h)→ez f k=false → ∀(L:Int) (r:ac) (deep:Int),1≤L→L≤5→yA r=true→CN (ff f k) L=false→0≤deep→deep+((bB f n k L++r).length:Int)≤380 →
 eD deep (ba (bB f n k L++r)) false (f.take s.toNat)=some ((k,()),((ba r,f.take (k.toNat+1),false,()),()))
def TG (f:List aa) (n:Nat):Prop := ∀(k s:Int) (h:Nat),cY f n k=some (s,h)→ez f k=false → ∀(L:Int) (r:ac) (deep least:Int),1≤L→L≤5→yA r=true→(dR r=0∨cg (dR r)≤L)→1≤least→least≤L→0≤deep→deep+((bB f n k L++r).length:Int)≤380 →
 bh least deep (ba (bB f n k L++r)) false (f.take s.toNat)=cm least deep k (ba r) false (f.take (k.toNat+1))
theorem Sw {op deep:Int} {m:ac} {ns:List aa} (hl:m.length≤390):fL op deep (ba (40 :: m)) false ns=bM op deep (ba m) false [] ns:=by
 have hb:bl (40 :: m)=40 :: m:=List.dropWhile_cons_of_neg (by decide)
 have hs:sg (40 :: m)=[40]:=by rw[gv (c:=40) (.inr (.inl rfl))]; rfl
 rw[oU,if_neg (by decide),show(⟨#[40]⟩:ByteArray)=ba [40] from rfl,cC (by rw[List.length_cons]; omega),hb,hs]
 simp
section
variable {f:List aa} (hf:f.length≤60)
include hf
theorem L4 {n:Nat} (HB:TG f n) {op deep:Int} (hd0:0≤deep) {r:ac} : ∀(ys pre:List Int) (s0 e:Int),ys≠[]→0≤s0→EF f n true ys s0 e→pre.length+ys.length≤100→deep+1+((bW (ys.map fun y=>bB f n y 1)++41 :: r).length:Int)≤380 →
  bM op deep (ba (bW (ys.map fun y=>bB f n y 1)++41 :: r)) false pre (f.take s0.toNat)=ay (6,op,(0,0,(⟨#[]⟩:ByteArray),()),((0,0,()),false,false,()),((0,0,()),false,false,()),pre++ys,()) (ba r) false (f.take e.toNat)
 | [],_,_,_,h,_,_,_,_=>absurd rfl h
 | y :: ys,pre,s0,e,_,hs0,hfw,hpl,hlen=>by
  obtain⟨⟨h',hc⟩,_,hfw'⟩:=hfw
  obtain⟨m,rfl⟩ : ∃ m,n=m+1:=by
   cases n with
   | zero=>cases hc
   | succ m=>exact⟨m,rfl⟩
  obtain⟨hy0,x,hx,hn,hok,hkids⟩:=p8 hc
  obtain⟨tl,htl,htx⟩ : ∃ tl:ac,(tl=41 :: r∧ys=[]∨tl=44 :: (bW (ys.map fun y=>bB f (m+1) y 1)++41 :: r)∧ys≠[])∧bW ((y :: ys).map fun y=>bB f (m+1) y 1)++41 :: r=bB f (m+1) y 1++tl:=by
   cases ys with
   | nil=>exact⟨_,.inl ⟨rfl,rfl⟩,rfl⟩
   | cons z zs=>exact⟨_,.inr ⟨rfl,by simp⟩,by simp[bW]⟩
  rw[htx] at hlen ⊢
  have hst:yA tl=true∧dR tl=0:=by
   rcases htl with⟨h,_⟩ | ⟨h,_⟩
   ·exact H5 (.inr (.inl (by rw[h]; rfl)))
   ·exact H5 (.inr (.inr (by rw[h]; rfl)))
  have hhd:=p7 (H7 (m+1) y s0 h' hc 1) tl
  have hbl:=ND hhd
  have htll:(tl.length:Int)≤380:=by
   rw[List.length_append] at hlen
   omega
  have hrl:(r.length:Int)+1≤380:=by
   rcases htl with⟨h,_⟩ | ⟨h,_⟩
   ·rw[h,List.length_cons] at htll
    omega
   ·rw[h,List.length_cons,List.length_append,List.length_cons] at htll
    omega
  have aR:((aY (⟨#[44]⟩:ByteArray) (ba tl) false (f.take (y.toNat+1))).bind fun z3=>(if(!z3.1.1)=true then(if z3.2.1.2.2.1=true then((ay (6,op,(0,0,(⟨#[]⟩:ByteArray),()),((0,0,()),false,false,()),((0,0,()),false,false,()),pre++[y],()) z3.2.1.1 true z3.2.1.2.1).bind fun z4=>(some ((z4.1.1,()),(z4.2.1,())))) else((aY (⟨#[41]⟩:ByteArray) z3.2.1.1 z3.2.1.2.2.1 z3.2.1.2.1).bind fun z5=>((ay (6,op,(0,0,(⟨#[]⟩:ByteArray),()),((0,0,()),false,false,()),((0,0,()),false,false,()),pre++[y],()) z5.2.1.1 (!z5.1.1) z5.2.1.2.1).bind fun z6=>(some ((z6.1.1,()),(z6.2.1,())))))) else(bM op deep z3.2.1.1 z3.2.1.2.2.1 (pre++[y]) z3.2.1.2.1)))
    = ay (6,op,(0,0,(⟨#[]⟩:ByteArray),()),((0,0,()),false,false,()),((0,0,()),false,false,()),pre++y :: ys,()) (ba r) false (f.take e.toNat):=by
   rcases htl with⟨h,h2⟩ | ⟨h,h2⟩
   ·subst h2
    have he:y+1=e:=hfw'
    rw[h,Q5 (by omega)]
    simp only[Option.bind_some,Bool.not_false,if_true,Bool.false_eq_true,if_false]
    rw[L2 (by omega)]
    simp only[Option.bind_some,Bool.not_true,fQ]
    congr 2
    omega
   ·have ih:=L4 HB (op:=op) hd0 (r:=r) ys (pre++[y]) (y+1) e h2 (by omega) hfw' (by simp only[List.length_append,List.length_cons,List.length_nil] at hpl ⊢; omega) (by
     rw[List.length_append,h,List.length_cons] at hlen
     omega)
    have hcl:((bW (ys.map fun y=>bB f (m+1) y 1)++41 :: r).length:Int)≤380:=by
     rw[h,List.length_cons] at htll
     omega
    rw[h,Sv (by omega)]
    simp only[Option.bind_some,Bool.not_true,Bool.false_eq_true,if_false]
    have e1:(y+1).toNat=y.toNat+1:=by omega
    rw[e1] at ih
    rw[ih]
    simp
  rw[g9]
  simp only[Bool.not_false,if_true]
  rw[CE (by omega),hbl]
  by_cases har:ez f y=true
  ·
   rw[zY hn,decide_eq_true_eq] at har
   cases r5 hok with
   | con v _ _ _=>simp at har
   | cell p _=>simp at har
   | neg a=>simp at har
   | bin op a b _ _=>simp at har
   | call op ks _=>simp at har
   | area p q hp =>
    obtain⟨r1,r2⟩:=dP hp
    have hs:s0=y:=hkids
    rw[CM hn,List.append_assoc,List.cons_append]
    obtain⟨w1,w2⟩:=uJ (mX r1).1 (r:=58 :: (eV q++tl)) ⟨rfl,rfl⟩
    obtain⟨w3,w4⟩:=CK (mX r2).1 hst.1
    have hb2:bl (58 :: (eV q++tl))=58 :: (eV q++tl):=List.dropWhile_cons_of_neg (by decide)
    have har:iL (eV p++58 :: (eV q++tl))=eV q++tl:=by
     unfold iL
     rw[w2,hb2]
     exact ND (p7 (EH (mX r2).1 (H6 r2)) tl)
    have hab:yx (eV p++58 :: (eV q++tl))=true:=by
     unfold yx
     rw[w1,w2,nM r1,hb2]
     rfl
    rw[if_pos hab,har,w1,w3,w4,nM r1,nM r2]
    simp only[Option.bind_some,if_true,Bool.not_true,Bool.or_false]
    rw[hs,zX hf hx]
    simp only[Option.bind_some]
    rw[bG (by simp only[List.length_singleton]; simp only[List.length_cons] at hpl; omega),Int.toNat_of_nonneg hy0]
    exact aR
  ·
   have har':ez f y=false:=by simpa using har
   obtain⟨c1,c2⟩:=PD (m+1) y s0 h' hc har' 1 tl hst.1
   have hab : ¬yx (bB f (m+1) y 1++tl)=true:=by
    unfold yx
    rw[T4 c2]
    simp[c1]
   rw[if_neg hab]
   simp only[Option.bind_some,Bool.false_eq_true,if_false]
   rw[wr (by omega) (by omega),HB y s0 h' hc har' 1 tl (deep+1) 1 (by decide) (by decide) hst.1 (.inl hst.2) (by decide) (by decide) (by omega) (by omega),A5 (by omega) hst.1 (.inl hst.2)]
   simp only[Option.bind_some]
   rw[bG (by simp only[List.length_singleton]; simp only[List.length_cons] at hpl; omega)]
   exact aR
theorem L5 {n:Nat} (HB:TG f n) {k s op a b:Int} (hk0:0≤k) (hx:f[k.toNat]? = some (5,op,v0,p0,p0,[a,b],())) (h1:1≤op) (h2:op≤11) (hfw:EF f n false [a,b] s k) {r:ac} {deep least:Int} (hr:yA r=true) (ho:dR r=0∨cg (dR r)≤cg op) (hl1:1≤least) (hl2:least≤cg op) (hd0:0≤deep) (hd:deep+((uK f n op a b++r).length:Int)≤380) :
  bh least deep (ba (uK f n op a b++r)) false (f.take s.toNat)=cm least deep k (ba r) false (f.take (k.toNat+1)):=by
 obtain⟨⟨ha,hca⟩,haa,⟨hb,hcb⟩,hab,hbk⟩:=hfw
 have hbk:b+1=k:=hbk
 have naa:ez f a=false:=by
  rw[Bool.eq_false_iff]
  intro h
  have:=haa h
  cases this
 have nab:ez f b=false:=by
  rw[Bool.eq_false_iff]
  intro h
  have:=hab h
  cases this
 obtain⟨v1,v2⟩:=CL op
 have hhd:=H7 n b (a+1) hb hcb (cg op+1)
 have hhd2:=p7 hhd r
 unfold uK at hd ⊢
 rw[List.append_assoc,List.append_assoc] at hd ⊢
 have ha0:0≤a:=by
  have:=fj f n a s ha hca
  omega
 have hb0:0≤b:=by
  have:=fj f n b (a+1) hb hcb
  omega
 rw[List.length_append,List.length_append] at hd
 rw[HB a s ha hca naa (cg op) _ deep least v1 (by omega) (NC h1 h2 _) (.inr (by rw[Py h1 h2 hhd2]; omega)) hl1 hl2 hd0 (by rw[List.length_append,List.length_append]; omega),T3 h1 h2 hhd2 (by omega) hl2]
 have ea:(a+1).toNat=a.toNat+1:=by omega
 have:=HB b (a+1) hb hcb nab (cg op+1) r deep (cg op+1) (by omega) (by omega) hr (ho.imp id fun h=>by omega) (by omega) (by omega) hd0 (by omega)
 rw[ea] at this
 rw[this,A5 (by rw[List.length_append] at hd; omega) hr (ho.imp id fun h=>by omega)]
 simp only[Option.bind_some]
 have eb:b.toNat+1=k.toNat:=by omega
 have hp:ay (5,op,(0,0,(⟨#[]⟩:ByteArray),()),((0,0,()),false,false,()),((0,0,()),false,false,()),[a,b],()) (ba r) false (f.take k.toNat)=_:=zX hf hx r
 rw[eb,hp]
 simp only[Option.bind_some]
 rw[Int.toNat_of_nonneg hk0]
theorem PE : ∀ n:Nat,Uf f n∧TG f n
 | 0=>⟨(fun k s h e=>by cases e),(fun k s h e=>by cases e)⟩
 | n+1=>by
  obtain⟨IU,IB⟩:=PE n
  have U:Uf f (n+1):=by
   intro k s h e har L r deep hL1 hL2 hr hbin hd0 hd
   obtain⟨hk0,x,hx,hn,hok,hfw⟩:=p8 e
   have hhd:=p7 (H7 (n+1) k s h e L) r
   have hbl:=ND hhd
   rw[zY hn] at har
   rw[hn] at hbin
   have aR:s=k→ay x (ba r) false (f.take s.toNat)=some ((k,()),((ba r,f.take (k.toNat+1),false,()),())):=by
    rintro rfl
    rw[zX hf hx,Int.toNat_of_nonneg hk0]
   cases r5 hok with
   | con v hv v0' v1 =>
    have hs:s=k:=hfw
    rw[A8 hn] at hd hbl ⊢
    by_cases h2:v.1=2
    ·rw[if_pos h2] at hd hbl ⊢
     have hve:v=(2,0,ba (lb v.2.2.1),()):=by
      rw[f0]
      exact Prod.ext h2 (Prod.ext (LP hv h2) rfl)
     rw[List.cons_append,List.append_assoc,List.singleton_append] at hd hbl ⊢
     simp only[List.length_cons,List.length_append] at hd
     rw[sn hd0 (by simp only[List.length_cons,List.length_append]; omega) (by rw[hbl]; simp),hbl,PC (by omega) (RA hr).1,←hve]
     exact aR hs
    ·rw[if_neg h2] at hd hbl ⊢
     rw[List.length_append] at hd
     rcases A6 hv v0' v1 h2 with⟨m,rfl,hm⟩ | ⟨h3,h4,h5⟩
     ·have e1:cL (vE (m.val:Int))=c8 (m.val:Int):=rfl
      rw[e1] at hd hbl ⊢
      have h45:(lb (c8 (m.val:Int))++r).head? ≠ some 45:=by
       have : ∀ m:Fin 6,1≤m.val→lb (c8 (m.val:Int))=35 :: di (m.val:Int):=by decide +kernel
       rw[this m hm]
       simp
      rw[sn hd0 (by rw[List.length_append]; omega) (by rw[hbl]; exact h45),hbl,Q7 hm (by omega)]
      exact aR hs
     ·have h45:(lb (cL v)++r).head? ≠ some 45:=by
       cases hw:lb (cL v) with
       | nil=>exact absurd hw h4
       | cons c t =>
        rw[hw] at h3
        simp only[List.all_cons,Bool.and_eq_true] at h3
        have:aF c=true→c≠45:=o4 (p:=fun c=>aF c=true→c≠45) (by decide +kernel) c
        simpa using this h3.1
      rw[sn hd0 (by rw[List.length_append]; omega) (by rw[hbl]; exact h45),hbl,zZ (by omega) h3 h4 (NB hr)]
      unfold eK
      rw[xH hv,if_pos ⟨rfl,h5⟩,iv]
      exact aR hs
   | cell p hp =>
    have hs:s=k:=hfw
    rw[xW hn] at hd hbl ⊢
    rw[List.length_append] at hd
    obtain⟨w1,c,t,ec,hc⟩:=mX hp
    have h45:(eV p++r).head? ≠ some 45:=by
     rw[ec]
     simpa using (RB c hc).2.2.1
    rw[sn hd0 (by rw[List.length_append]; omega) (by rw[hbl]; exact h45),hbl,zZ (by omega) w1 (H6 hp) (NB hr)]
    unfold eK
    rw[if_neg (by rw[Q4 hp]; exact fun h=>by cases h.1),nM hp,if_pos rfl]
    exact aR hs
   | area p q hp=>simp at har
   | neg a =>
    obtain⟨⟨ha,hca⟩,haa,hak⟩:=hfw
    have hak:a+1=k:=hak
    have naa:ez f a=false:=by
     rw[Bool.eq_false_iff]
     intro h
     have:=haa h
     simp at this
    have ha0:0≤a:=by
     have:=fj f n a s ha hca
     omega
    rw[A9 hn] at hd hbl ⊢
    rw[List.cons_append] at hd hbl ⊢
    rw[List.length_cons] at hd
    have nb:CN (ff f a) 5=false:=by
     unfold CN
     have:=CL (ff f a).2.1
     rw[decide_eq_true (show cg (ff f a).2.1 < 5 by omega)]
     simp
    rw[TE hd0 (by rw[List.length_cons]; omega) (by rw[hbl]; rfl),hbl]
    simp only[List.drop_succ_cons,List.drop_zero]
    rw[IU a s ha hca naa 5 r (deep+1) (by decide) (by decide) hr nb (by omega) (by omega)]
    simp only[Option.bind_some]
    have ea:a.toNat+1=k.toNat:=by omega
    rw[ea]
    refine(zX hf hx r).trans ?_
    rw[Int.toNat_of_nonneg hk0]
   | bin op a b h1 h2 =>
    have hlt:cg op < L:=by
     unfold CN at hbin
     simpa using hbin
    rw[wL hn,if_pos hlt] at hd hbl ⊢
    rw[List.cons_append,List.append_assoc,List.singleton_append] at hd hbl ⊢
    rw[List.length_cons] at hd
    have hll:=hd
    rw[List.length_append,List.length_cons] at hll
    obtain⟨v1,v2⟩:=CL op
    have h41:=H5 (r:=41 :: r) (.inr (.inl rfl))
    rw[sn hd0 (by rw[List.length_cons]; omega) (by rw[hbl]; simp),hbl,TF (by omega),wr (by omega) (by omega),L5 hf IB hk0 hx h1 h2 hfw h41.1 (.inl h41.2) (by decide) v1 (by omega) (by omega),A5 (by rw[List.length_cons]; omega) h41.1 (.inl h41.2)]
    simp only[Option.bind_some,Bool.false_eq_true,if_false]
    rw[L2 (by omega)]
    rfl
   | call op ks ha =>
    obtain⟨g1,g2,g3,g4⟩:=A7 ha
    obtain⟨f1,f2,f3,f4,f5⟩:=EG g1 g2
    rw[xX hn] at hd hbl ⊢
    rw[List.append_assoc,List.cons_append,List.append_assoc,List.singleton_append] at hd hbl ⊢
    have h45:(dv op++40 :: (bW (ks.map fun k=>bB f n k 1)++41 :: r)).head? ≠ some 45:=by
     cases hw:dv op with
     | nil=>exact absurd hw f2
     | cons c t =>
      rw[hw] at f1
      simp only[List.all_cons,Bool.and_eq_true] at f1
      have:aF c=true→c≠45:=o4 (p:=fun c=>aF c=true→c≠45) (by decide +kernel) c
      simpa using this f1.1
    have hll:=hd
    rw[List.length_append,List.length_cons] at hll
    have hfl:1≤(dv op).length:=List.length_pos_iff.2 f2
    rw[sn hd0 (by omega) (by rw[hbl]; exact h45),hbl,zZ (by rw[List.length_cons]; omega) f1 f2 ⟨rfl,rfl⟩]
    unfold eK
    rw[if_neg (by rw[f3]; exact fun h=>by cases h.1),if_neg (by rw[f4]; decide),f5]
    simp only
    have hs0:0≤s:=(fj f (n+1) k s h e).1
    have hkn:ks≠[]:=by
     rintro rfl
     simp at g3
    have hfw':EF f n true ks s k:=by
     have:decide (((6,op,v0,p0,p0,ks,()):aa).1=6)=true:=rfl
     rw[this] at hfw
     exact hfw
    rw[Sw (by omega),L4 hf IB hd0 ks [] s k hkn hs0 hfw' (by simp only[List.length_nil]; omega) (by omega),List.nil_append]
    refine(zX hf hx r).trans ?_
    rw[Int.toNat_of_nonneg hk0]
  refine⟨U,?_⟩
  intro k s h e har L r deep least hL1 hL2 hr ho hl1 hl2 hd0 hd
  by_cases hb:CN (ff f k) L=true
  ·obtain⟨hk0,x,hx,hn,hok,hfw⟩:=p8 e
   rw[hn] at hb
   unfold CN at hb
   rw[Bool.and_eq_true,decide_eq_true_eq,Bool.not_eq_true',decide_eq_false_iff_not] at hb
   cases r5 hok with
   | con v _ _ _=>simp at hb
   | cell p _=>simp at hb
   | area p q _=>simp at hb
   | neg a=>simp at hb
   | call op ks _=>simp at hb
   | bin op a b h1 h2 =>
    have hge : ¬cg op < L:=hb.2
    rw[wL hn,if_neg hge] at hd ⊢
    exact L5 hf IB hk0 hx h1 h2 hfw hr (ho.imp id fun h=>by omega) hl1 (by omega) hd0 hd
  ·have hb':CN (ff f k) L=false:=by simpa using hb
   rw[me,U k s h e har L r deep hL1 hL2 hr hb' hd0 hd]
   rfl
end
def lq (c:UInt8):Bool:=decide (32≤c.toNat) && decide (c.toNat≤126)
theorem xY {l:ac}:plain (ba l)=l.all lq:=by
 unfold plain
 rw[OU,List.all_map]
 congr 1
 funext c
 simp only[Function.comp,ru,lq]
 rw[Bool.eq_iff_iff]
 simp only[decide_eq_true_eq,Bool.and_eq_true]
 omega
theorem Ba {w:ac} (h:w.all aF=true):w.all lq=true:=by
 rw[List.all_eq_true] at h ⊢
 intro c hc
 exact o4 (p:=fun c=>aF c=true→lq c=true) (by decide +kernel) c (h c hc)
theorem NF : ∀ {l:ac},l.all lq=true→(qT l).all lq=true
 | [],_=>rfl
 | c :: l,h=>by
  simp only[List.all_cons,Bool.and_eq_true] at h
  unfold qT
  split
  ·simp only[List.all_cons,NF h.2,Bool.and_true]
   decide
  ·simp only[List.all_cons,h.1,NF h.2,Bool.and_true]
theorem G9 : ∀ {l:List ac},(∀ x∈l,x.all lq=true)→(bW l).all lq=true
 | [],_=>rfl
 | [x],h=>h x (by simp)
 | x :: y :: l,h=>by
  have ih:=G9 (l:=y :: l) fun z hz=>h z (List.mem_cons_of_mem _ hz)
  show(x++44 :: bW (y :: l)).all lq=true
  rw[List.all_append,List.all_cons,h x (by simp),ih]
  decide
theorem TH {op:Int} (h0:1≤op) (h1:op≤11):(cZ op).all lq=true:=by
 have : ∀ k:Fin 12,(cZ (k.val:Int)).all lq=true:=by decide +kernel
 have h:=this ⟨op.toNat,by omega⟩
 simpa only[Int.toNat_of_nonneg (show 0≤op by omega)] using h
theorem wM {f:List aa} {n:Nat} {call:Bool} : ∀ {l:List Int} {s e:Int},EF f n call l s e → ∀ y∈l,∃ s h,cY f n y=some (s,h)
 | [],_,_,_,y,hy=>by cases hy
 | z :: l,s,e,h,y,hy=>by
  rcases List.mem_cons.1 hy with rfl | hy
  ·obtain⟨h',hc⟩:=h.1
   exact⟨s,h',hc⟩
  ·exact wM h.2.2 y hy
theorem Bb {f:List aa} : ∀(n:Nat) (k s:Int) (h:Nat),cY f n k=some (s,h) → ∀ L,(bB f n k L).all lq=true
 | 0,k,s,h,e,L=>by cases e
 | n+1,k,s,h,e,L=>by
  obtain⟨h0,x,hx,hn,hok,hfw⟩:=p8 e
  cases r5 hok with
  | con v hv v0' v1 =>
   rw[A8 hn]
   by_cases h2:v.1=2
   ·rw[if_pos h2,List.all_cons,List.all_append,NF]
    ·decide
    ·have hp:plain v.2.2.1=true:=by
      unfold aN at hv
      rw[if_pos h2] at hv
      simp only[Bool.and_eq_true] at hv
      exact hv.2.1
     rw[←f0 v.2.2.1,xY] at hp
     exact hp
   ·rw[if_neg h2]
    rcases A6 hv v0' v1 h2 with⟨m,rfl,hm⟩ | ⟨h3,h4,_⟩
    ·have : ∀ m:Fin 6,1≤m.val→(lb (cL (vE (m.val:Int)))).all lq=true:=by decide +kernel
     exact this m hm
    ·exact Ba h3
  | cell p hp =>
   rw[xW hn]
   exact Ba (mX hp).1
  | area p q hp =>
   rw[CM hn,List.all_append,List.all_cons,Ba (mX (dP hp).1).1,Ba (mX (dP hp).2).1]
   decide
  | neg a =>
   obtain⟨s',h',hc⟩:=wM hfw a (by simp)
   rw[A9 hn,List.all_cons,Bb n a s' h' hc]
   decide
  | bin op a b h1 h2 =>
   obtain⟨s1,h1',c1⟩:=wM hfw a (by simp)
   obtain⟨s2,h2',c2⟩:=wM hfw b (by simp)
   have hb:(uK f n op a b).all lq=true:=by
    unfold uK
    rw[List.all_append,List.all_append,Bb n a s1 h1' c1,Bb n b s2 h2' c2,TH h1 h2]
    rfl
   rw[wL hn]
   split
   ·rw[List.all_cons,List.all_append,hb]
    decide
   ·exact hb
  | call op ks ha =>
   obtain⟨g1,g2,_⟩:=A7 ha
   obtain⟨f1,_⟩:=EG g1 g2
   rw[xX hn,List.all_append,List.all_cons,List.all_append,Ba f1,G9]
   ·decide
   ·intro z hz
    obtain⟨y,hy,rfl⟩:=List.mem_map.1 hz
    obtain⟨s',h',hc⟩:=wM hfw y hy
    exact Bb n y s' h' hc 1
def fT (f:List aa):ac:=bB f f.length ((f.length:Int) - 1) 1
theorem L6 {f:List aa} (h:fp f=true):f.length≤60∧1≤f.length∧ez f ((f.length:Int) - 1)=false ∧ ∃ d,cY f f.length ((f.length:Int) - 1)=some (0,d):=by
 unfold fp oZ at h
 rw[Bool.and_eq_true] at h
 obtain⟨h1,h2⟩:=h
 have h1:=bd.1 h1
 split at h2
 ·rename_i s d hc
  simp only[Bool.and_eq_true,decide_eq_true_eq,Bool.not_eq_true'] at h2
  rw[h2.1] at hc
  exact⟨by omega,by omega,h2.2.1,d,hc⟩
 ·cases h2
theorem PF {f:List aa} (h:fp f=true) (hl:(fT f).length≤200):jb (ba (fT f))=some ((f,true,()),()):=by
 obtain⟨h60,h1,har,d,hc⟩:=L6 h
 have hp:plain (ba (fT f))=true:=by
  rw[xY]
  exact Bb _ _ _ _ hc 1
 have hst:=H5 (r:=[]) (.inl rfl)
 have hB:=(PE h60 f.length).2 _ 0 d hc har 1 [] 0 1 (by decide) (by decide) hst.1 (.inl hst.2) (by decide) (by decide) (by decide) (by rw[List.append_nil]; show(0:Int)+((fT f).length:Int)≤380; omega)
 rw[List.append_nil] at hB
 have hB:bh 1 0 (ba (fT f)) false []=_:=hB
 rw[A5 (by simp) hst.1 (.inl hst.2)] at hB
 have ek:((f.length:Int) - 1).toNat+1=f.length:=by omega
 rw[ek,List.take_length] at hB
 have hs:=l4 h
 have hn : ∀ x∈f,bH x=true:=by
  intro x hx
  obtain⟨i,hi⟩:=List.getElem?_of_mem hx
  exact(hs i x hi).1
 have hsm:sm f=true:=by
  unfold sm
  rw[List.all_eq_true]
  exact fun x hx=>GW (hn x hx)
 rw[uv,rV (by rw[aq]; omega),hp]
 have h200:decide (((ba (fT f)).size:Int)≤200)=true:=decide_eq_true (by rw[aq]; omega)
 rw[h200]
 simp only[Option.bind_some,Bool.and_self,Bool.not_true,Bool.false_eq_true,if_false]
 rw[hB]
 simp only[Option.bind_some]
 rw[l6]
 simp only[Option.bind_some,Bool.false_eq_true,if_false]
 have e0:(ByteArray.toList (ba (bl [])) == ByteArray.toList (⟨#[]⟩:ByteArray))=true:=by
  rw[show(⟨#[]⟩:ByteArray)=ba [] from rfl,cT]
  rfl
 rw[e0]
 simp only[Bool.not_true,Bool.false_eq_true,if_false]
 rw[jX (by omega) (FK hsm) (FL hsm),h]
 rfl
end Go.Proofs.YtddiiceaindlhaaGreatDoor.Abs
set_option linter.unusedVariables false
set_option linter.unusedSimpArgs false
set_option linter.unusedSectionVars false
namespace Go.Proofs.YtddiiceaindlhaaGreatDoor.Abs
open Go
noncomputable def gw (x:ByteArray):List aa×Bool:=if h:x.size≤9223372036854775807 then((H4 h).choose,(H4 h).choose_spec.choose) else([],false)
theorem qY {x:ByteArray} (h:x.size≤9223372036854775807):kX x=some (((gw x).1,(gw x).2,()),())∧jb x=some (((gw x).1,(gw x).2,()),())∧((gw x).2=true→fp (gw x).1=true)∧((gw x).2=false→(gw x).1=[]):=by
 unfold gw
 rw[dif_pos h]
 exact(H4 h).choose_spec.choose_spec
theorem Q8 {f:List aa} (h:fp f=true) (hl:(fT f).length≤200):gw (ba (fT f))=(f,true):=by
 have h1:=(qY (x:=ba (fT f)) (by rw[aq]; omega)).2.1
 rw[PF h hl] at h1
 have:=Option.some.inj h1
 have e1:(gw (ba (fT f))).1=f:=(congrArg (fun z=>z.1.1) this).symm
 have e2:(gw (ba (fT f))).2=true:=(congrArg (fun z=>z.1.2.1) this).symm
 exact Prod.ext e1 e2
def bN (f:List aa):ac:=if fp f=true∧(fT f).length≤200 then fT f else []
theorem Aa {f:List aa} (h:fp f=true):f.length≤60∧(∀ x∈f,x.2.2.1.2.2.1.size≤9223372036854775807) ∧ ∀ x∈f,x.2.2.2.2.2.1.length≤10000000:=by
 have hs:dx f=true:=by
  unfold dx
  rw[List.all_eq_true]
  intro y hy
  obtain⟨i,hi⟩:=List.getElem?_of_mem hy
  exact(l4 h i y hi).1
 have ho':=h
 unfold fp at ho'
 rw[Bool.and_eq_true] at ho'
 have:=bd.1 ho'.1
 exact⟨by omega,FK (tC hs),FL (tC hs)⟩
theorem CO {f:List aa} (hl:f.length≤10000000) (hs : ∀ x∈f,x.2.2.1.2.2.1.size≤9223372036854775807) (hk : ∀ x∈f,x.2.2.2.2.2.1.length≤10000000):oE f=some ((ba (bN f),()),())∧kY f=some ((ba (bN f),()),()):=by
 rw[uw,uu,jX hl hs hk,mT hl hs hk]
 simp only[Option.bind_some]
 unfold bN
 cases ho:fp f with
 | false=>exact⟨rfl,rfl⟩
 | true =>
  simp only[Bool.not_true,Bool.false_eq_true,if_false]
  have ho':=ho
  unfold fp at ho'
  rw[Bool.and_eq_true] at ho'
  have hlen:=bd.1 ho'.1
  have ht:=ho'.2
  unfold oZ at ht
  cases hc:cY f f.length ((f.length:Int) - 1) with
  | none=>rw[hc] at ht; cases ht
  | some p =>
   obtain⟨h1,h2⟩:=FM (by omega) f.length ((f.length:Int) - 1) p.1 p.2 hc
   rw[wr (by omega) (by omega),(h1 1).1,(h1 0).2,Es]
   simp only[Option.bind_some,aq]
   by_cases hb:(fT f).length≤200
   ·have hb':(bB f f.length ((f.length:Int) - 1) 1).length≤200:=hb
    rw[aE (by omega),if_pos (by simp[hb])]
    exact⟨rfl,rfl⟩
   ·have hb' : ¬(bB f f.length ((f.length:Int) - 1) 1).length≤200:=hb
    rw[aI (by omega),if_neg (fun h=>hb h.2)]
    exact⟨rfl,rfl⟩
theorem Ab (f:List aa):(bN f).length≤200:=by
 unfold bN
 split
 ·rename_i h
  exact h.2
 ·exact Nat.zero_le _
noncomputable def ia (w:ac):ac×Bool :=
 if w=[] then([],true)
 else if(w.all lq && decide (w.length≤200))=false then([],false)
 else if w.head? = some 61 then(let r:=gw (ba (w.drop 1)); if r.2=true∧bN r.1≠[]∧(bN r.1).length < 200 then(61 :: bN r.1,true) else([],false))
 else if fH w=true then(lb (dp (jJ w)),true)
 else if(br w).2=true then(w,true)
 else if w.length=200 then([],false) else(39 :: w,true)
theorem Uj {w:ac} (hx:w.length≤9223372036854775807):pJ (ba w)=some ((ba (ia w).1,(ia w).2,()),()):=by
 rw[vc,mA (by rw[aq]; exact hx)]
 simp only[Option.bind_some]
 have e0 : ∀ x:ac,(ByteArray.toList (ba x) == ByteArray.toList (⟨#[]⟩:ByteArray))=decide (x=[]):=fun x=>cT (b:=[])
 have e1:(plain (ba w) && decide (((ba w).size:Int)≤200))=(w.all lq && decide (w.length≤200)):=by
  rw[xY,aq]
  congr 1
  rw[Bool.eq_iff_iff,decide_eq_true_eq,decide_eq_true_eq]
  omega
 rw[e0,e1]
 unfold ia
 by_cases hw:w=[]
 ·subst hw
  rfl
 ·rw[if_neg hw,decide_eq_false hw]
  cases hp:(w.all lq && decide (w.length≤200)) with
  | false=>rfl
  | true =>
   rw[if_neg (by decide)]
   have hp':=hp
   rw[Bool.and_eq_true,decide_eq_true_eq] at hp'
   have hl:=hp'.2
   simp only[Bool.not_true,Bool.false_eq_true,if_false]
   cases w with
   | nil=>exact absurd rfl hw
   | cons c l =>
    rw[o0,Cz c 61 (n:=61) rfl]
    by_cases hc:c=61
    ·subst hc
     have hll:l.length≤200:=by rw[List.length_cons] at hl; omega
     simp only[List.head?_cons,decide_true,if_true,List.drop_succ_cons,List.drop_zero]
     rw[show(1:Int)=((1:Nat):Int) from rfl,fy (by simp)]
     simp only[List.drop_succ_cons,List.drop_zero]
     obtain⟨r1,_,r3,r4⟩:=qY (x:=ba l) (by rw[aq]; omega)
     rw[r1]
     simp only[Option.bind_some]
     have hsm:(gw (ba l)).1.length≤10000000∧(∀ x∈(gw (ba l)).1,x.2.2.1.2.2.1.size≤9223372036854775807) ∧ ∀ x∈(gw (ba l)).1,x.2.2.2.2.2.1.length≤10000000:=by
      cases hb:(gw (ba l)).2 with
      | false=>rw[r4 hb]; simp
      | true =>
       have:=Aa (r3 hb)
       exact⟨by omega,this.2⟩
     have hfl:=Ab (gw (ba l)).1
     rw[(CO hsm.1 hsm.2.1 hsm.2.2).2]
     simp only[Option.bind_some]
     rw[e0,aq,show(⟨#[61]⟩:ByteArray)=ba [61] from rfl,bm (by simp only[List.length_singleton]; omega),wr (by omega) (by omega)]
     cases hb:(gw (ba l)).2 with
     | false=>simp
     | true =>
      by_cases h1:bN (gw (ba l)).1=[]
      ·simp[h1]
      ·by_cases h2:(bN (gw (ba l)).1).length < 200
       ·rw[aE h1,aE (by omega)]
        simp[h1,h2]
       ·rw[aE h1,aI (by omega)]
        simp[h1,h2]
    ·have hnc : ¬(c :: l).head? = some (61:UInt8):=by simpa using hc
     rw[if_neg hnc]
     simp only[hc,decide_false,Bool.false_eq_true,if_false]
     generalize hwd:(c :: l:ac)=w at *
     have hsz:(ba w).size=w.length:=aq w
     obtain⟨v,n1,n2⟩:=zR hw (by omega)
     rw[n1,rh (by omega)]
     simp only[Option.bind_some]
     cases ho:fH w with
     | true =>
      have hrg:=xQ ho
      have hok:aN (vN (jJ w))=true:=by
       rw[QT]
       exact bd.2 hrg
      rw[n2 ho]
      simp only[if_true]
      rw[gk (jn hok),if_pos hok]
      simp only[Option.bind_some,f0]
      rfl
     | false =>
      simp only[Bool.false_eq_true,if_false]
      cases hr:(br w).2 with
      | true =>
       obtain⟨k1,k2⟩:=pU hr
       simp only[Bool.not_true,Bool.false_eq_true,if_false]
       rw[gk (jn k1),if_pos k1,k2]
       simp only[Option.bind_some]
       rw[aE (by rw[hsz]; omega)]
       rfl
      | false =>
       simp only[Bool.not_false,Bool.false_eq_true,if_false,if_true]
       have hov:aN (2,0,ba w,())=true:=by
        unfold aN
        rw[if_pos rfl]
        simp only[decide_true,Bool.true_and]
        rw[e1]
        exact hp
       have htx:cL (2,0,ba w,())=ba (39 :: w):=by
        show(⟨#[39]⟩:ByteArray)++ba w=_
        rw[show(⟨#[39]⟩:ByteArray)=ba [39] from rfl,mC]
        rfl
       rw[gk (jn hov),if_pos hov,htx]
       simp only[Option.bind_some,aq,List.length_cons]
       by_cases h2:w.length=200
       ·rw[aI (by omega),if_pos h2]
        rfl
       ·rw[aE (by omega),if_neg h2]
        rfl
theorem Bc {w:ac} (hx:w.length≤9223372036854775807):eL (ba w)=(ba (ia w).1,(ia w).2):=by
 have h:=(qW (x:=ba w) (by rw[aq]; exact hx)).2.1
 rw[Uj hx] at h
 have:=Option.some.inj h
 exact Prod.ext (congrArg (fun z=>z.1.1) this).symm (congrArg (fun z=>z.1.2.1) this).symm
theorem Q9 {n:Int} (h0 : -1000000000000000≤n) (h1:n≤1000000000000000):fH (lb (dp n))=true∧jJ (lb (dp n))=n∧(lb (dp n)).all lq=true∧(lb (dp n)).head? ≠ some 61∧(lb (dp n)).length≤20∧lb (dp n)≠[]:=by
 have hsz:=oX (n:=n) (by omega) (by omega)
 have hd : ∀ u:Nat,u≤1000000000000000→(Lib.decDigits u).all dh=true∧bo 0 (Lib.decDigits u)=u∧Lib.decDigits u≠[]∧(Lib.decDigits u).head? ≠ some 45∧(Lib.decDigits u).head? ≠ some 61∧(Lib.decDigits u).all lq=true:=by
  intro u hu
  have ha:=AP (pR u)
  refine⟨ha,pQ u,wB.1,wB.2.2.2.1,?_,Ba (L3 u)⟩
  intro h
  cases hdd:Lib.decDigits u with
  | nil=>rw[hdd] at h; cases h
  | cons c t =>
   rw[hdd] at h ha
   simp only[List.head?_cons,Option.some.injEq] at h
   subst h
   simp[dh] at ha
 by_cases hn:n < 0
 ·obtain⟨d1,d2,d3,d4,d5,d6⟩:=hd (-n).toNat (by omega)
  have e:lb (dp n)=45 :: Lib.decDigits (-n).toNat:=by rw[uF hn,dw]
  rw[←pP,e] at hsz
  rw[e]
  have hm:g8 (45 :: Lib.decDigits (-n).toNat)=Lib.decDigits (-n).toNat:=rfl
  have hg:J3 (45 :: Lib.decDigits (-n).toNat)=true:=rfl
  refine⟨?_,?_,?_,by simp,hsz,by simp⟩
  ·unfold fH iw
   rw[hm,d1,d2,decide_eq_true d3,decide_eq_true (by omega)]
   rfl
  ·unfold jJ p4
   rw[hm,hg,d2,if_pos rfl]
   omega
  ·rw[List.all_cons,d6]
   rfl
 ·obtain⟨d1,d2,d3,d4,d5,d6⟩:=hd n.toNat (by omega)
  have e:lb (dp n)=Lib.decDigits n.toNat:=by
   rw[show dp n=dp (n.toNat:Int) by rw[show(n.toNat:Int)=n by omega],ll,dw]
  rw[←pP,e] at hsz
  rw[e]
  have hm:g8 (Lib.decDigits n.toNat)=Lib.decDigits n.toNat:=if_neg d4
  have hg:J3 (Lib.decDigits n.toNat)=false:=decide_eq_false d4
  refine⟨?_,?_,d6,d5,hsz,d3⟩
  ·unfold fH iw
   rw[hm,d1,d2,decide_eq_true d3,decide_eq_true (by omega)]
   rfl
  ·unfold jJ p4
   rw[hm,hg,d2,if_neg (by decide)]
   omega
theorem Ac {f:List aa} (h:fp f=true) (hl:(fT f).length < 200) (hne:fT f≠[]):ia (61 :: fT f)=(61 :: fT f,true):=by
 obtain⟨h60,h1,har,d,hc⟩:=L6 h
 have hp:(61 :: fT f).all lq=true:=by
  rw[List.all_cons]
  exact(Bool.and_eq_true _ _).mpr ⟨by decide,Bb _ _ _ _ hc 1⟩
 have ht:bN f=fT f:=if_pos ⟨h,by omega⟩
 unfold ia
 rw[if_neg (by simp),hp,decide_eq_true (by rw[List.length_cons]; omega),if_neg (by decide),if_pos (by rfl)]
 simp only[List.drop_succ_cons,List.drop_zero]
 rw[Q8 h (by omega)]
 simp only[ht]
 rw[if_pos (by simp[hne,hl])]
theorem FV {w:ac} (hw:w≠[]) (hp:(w.all lq && decide (w.length≤200))=true):ia w=if w.head? = some 61 then(let r:=gw (ba (w.drop 1)); if r.2=true∧bN r.1≠[]∧(bN r.1).length < 200 then(61 :: bN r.1,true) else([],false)) else if fH w=true then(lb (dp (jJ w)),true) else if(br w).2=true then(w,true) else if w.length=200 then([],false) else(39 :: w,true):=by
 unfold ia
 rw[if_neg hw,hp,if_neg (by decide)]
theorem PG {w:ac} (h:(ia w).2=true) (hne:(ia w).1≠[]):ia (ia w).1=((ia w).1,true):=by
 by_cases hw:w=[]
 ·have e:ia w=([],true):=if_pos hw
  rw[e] at hne
  exact absurd rfl hne
 ·cases hp:(w.all lq && decide (w.length≤200)) with
  | false =>
   have e:ia w=([],false):=by
    unfold ia
    rw[if_neg hw,hp,if_pos rfl]
   rw[e] at h
   cases h
  | true =>
   have hp':=hp
   rw[Bool.and_eq_true,decide_eq_true_eq] at hp'
   have e:=FV hw hp
   by_cases h61:w.head? = some 61
   ·rw[if_pos h61] at e
    dsimp only at e
    by_cases hr:(gw (ba (w.drop 1))).2=true∧bN (gw (ba (w.drop 1))).1≠[]∧(bN (gw (ba (w.drop 1))).1).length < 200
    ·have hd:(w.drop 1).length≤200:=by rw[List.length_drop]; omega
     have hok:=(qY (x:=ba (w.drop 1)) (by rw[aq]; omega)).2.2.1 hr.1
     have ht:bN (gw (ba (w.drop 1))).1=fT (gw (ba (w.drop 1))).1:=by
      have:=hr.2.1
      unfold bN at this ⊢
      by_cases k:fp (gw (ba (w.drop 1))).1=true∧(fT (gw (ba (w.drop 1))).1).length≤200
      ·rw[if_pos k]
      ·rw[if_neg k] at this
       exact absurd rfl this
     rw[if_pos hr,ht] at e
     rw[e]
     exact Ac hok (by rw[←ht]; exact hr.2.2) (by rw[←ht]; exact hr.2.1)
    ·rw[if_neg hr] at e
     rw[e] at h
     cases h
   ·rw[if_neg h61] at e
    by_cases hn:fH w=true
    ·rw[if_pos hn] at e
     obtain⟨r0,r1⟩:=xQ hn
     obtain⟨i1,i2,i3,i4,i5,i6⟩:=Q9 r0 r1
     rw[e]
     dsimp only
     rw[FV i6 (by rw[i3,decide_eq_true (by omega)]; rfl),if_neg i4,if_pos i1,i2]
    ·rw[if_neg hn] at e
     by_cases hv:(br w).2=true
     ·rw[if_pos hv] at e
      rw[e]
      dsimp only
      exact e
     ·rw[if_neg hv] at e
      by_cases h200:w.length=200
      ·rw[if_pos h200] at e
       rw[e] at h
       cases h
      ·rw[if_neg h200] at e
       rw[e]
       dsimp only
       have hpl:(39 :: w).all lq=true:=by
        rw[List.all_cons,hp'.1]
        rfl
       have hov:aN (vT (ba w))=true:=by
        unfold aN vT
        rw[if_pos rfl]
        simp only[decide_true,Bool.true_and]
        rw[xY,hp'.1,aq]
        exact decide_eq_true (by omega)
       have hvt:(br (39 :: w)).2=true:=by
        have e:lb (cL (vT (ba w)))=39 :: w:=by
         show lb ((⟨#[39]⟩:ByteArray)++ba w)=_
         rw[show(⟨#[39]⟩:ByteArray)=ba [39] from rfl,mC,dw]
         rfl
        have:=xH hov
        rw[e] at this
        rw[this]
       have hnn : ¬fH (39 :: w)=true:=by
        unfold fH iw
        have hm:g8 (39 :: w)=39 :: w:=rfl
        rw[hm,List.all_cons]
        have:dh 39=false:=by decide
        rw[this]
        simp
       rw[FV (by simp) (by rw[hpl,decide_eq_true (by rw[List.length_cons]; omega)]; rfl),if_neg (by simp),if_neg hnn,if_pos hvt]
def T5 (x:ByteArray):Prop:=x=eS∨dH x=true
theorem Sx {x:ByteArray} (hx:x.size≤9223372036854775807) (h:(eL x).2=true):T5 (eL x).1:=by
 obtain⟨w,rfl⟩ : ∃ s,x=ba s:=⟨lb x,(f0 x).symm⟩
 rw[aq] at hx
 rw[Bc hx] at h ⊢
 by_cases he:(ia w).1=[]
 ·left
  show ba (ia w).1=eS
  rw[he]
 ·right
  have hi:=PG h he
  have hl:(ia w).1.length≤200:=by
   have:=(qW (x:=ba w) (by rw[aq]; exact hx)).2.2
   rw[Bc hx,aq] at this
   exact this
  show dH (ba (ia w).1)=true
  unfold dH
  rw[Bc (by omega),hi]
  have:ba (ia w).1≠eS:=fun e=>he (qS (b:=[]) e)
  simp[this]
theorem Ld {f:List aa} (h:fp f=true) (hl:(fT f).length < 200) (hne:fT f≠[]):dH (ba (61 :: fT f))=true:=by
 unfold dH
 rw[Bc (by rw[List.length_cons]; omega),Ac h hl hne]
 have:ba (61 :: fT f)≠eS:=fun e=>by cases qS (b:=[]) e
 simp[this]
end Go.Proofs.YtddiiceaindlhaaGreatDoor.Abs
set_option linter.unusedVariables false
set_option linter.unusedSimpArgs false
set_option linter.unusedSectionVars false
namespace Go.Proofs.YtddiiceaindlhaaGreatDoor.Abs
open Go
structure TI (g:aa→aa):Prop where
 ok : ∀ x,bH x=true→bH (g x)=true
 kids : ∀ x,bH x=true→(g x).2.2.2.2.2.1=x.2.2.2.2.2.1
 six : ∀ x,bH x=true→((g x).1=6↔x.1=6)
 three : ∀ x,(g x).1=3→x.1=3
section
variable {g:aa→aa} (M:TI g) {f:List aa}
include M
theorem Kh {k:Int} (h:ez (f.map g) k=true):ez f k=true:=by
 unfold ez at h ⊢
 rw[decide_eq_true_eq,List.getD_eq_getElem?_getD] at h ⊢
 rw[List.getElem?_map] at h
 cases hx:f[k.toNat]? with
 | none=>rw[hx] at h; exact h
 | some x =>
  rw[hx] at h
  exact M.three x h
theorem Ha {c c':Int→Option (Int×Nat)} (hc : ∀ k r,c k=some r→c' k=some r) {call:Bool} : ∀(l:List Int) (cur:Int) (h:Nat) (r:Int×Nat),d7 c f call l cur h=some r→d7 c' (f.map g) call l cur h=some r
 | [],cur,h,r,e=>e
 | kid :: l,cur,h,r,e=>by
  simp only[d7] at e ⊢
  split at e
  ·rename_i hk
   cases hp:c kid with
   | none=>rw[hp] at e; cases e
   | some p =>
    rw[hp,Option.bind_some] at e
    rw[if_pos ⟨hk.1,hk.2.1,fun ha=>hk.2.2 (Kh M ha)⟩,hc kid p hp,Option.bind_some]
    exact Ha hc l p.1 (max h p.2) r e
  ·cases e
theorem L7 : ∀(n:Nat) (k:Int) (r:Int×Nat),cY f n k=some r→cY (f.map g) n k=some r
 | 0,k,r,e=>e
 | n+1,k,r,e=>by
  unfold cY at e ⊢
  by_cases h0:0≤k
  ·rw[if_pos h0] at e ⊢
   rw[List.getElem?_map]
   cases hx:f[k.toNat]? with
   | none=>rw[hx] at e; cases e
   | some x =>
    rw[hx] at e
    simp only[Option.map_some] at e ⊢
    by_cases ho:bH x=true
    ·rw[if_pos ho] at e
     rw[if_pos (M.ok x ho),M.kids x ho]
     have h6:decide ((g x).1=6)=decide (x.1=6):=by
      rw[Bool.eq_iff_iff,decide_eq_true_eq,decide_eq_true_eq]
      exact M.six x ho
     rw[h6]
     exact Ha M (fun k r=>L7 n k r) _ _ _ _ e
    ·rw[if_neg ho] at e
     cases e
  ·rw[if_neg h0] at e
   cases e
theorem wN (h:fp f=true):fp (f.map g)=true:=by
 unfold fp oZ at h ⊢
 rw[Bool.and_eq_true] at h ⊢
 rw[List.length_map]
 refine⟨h.1,?_⟩
 have h2:=h.2
 cases hc:cY f f.length ((f.length:Int) - 1) with
 | none=>rw[hc] at h2; cases h2
 | some p =>
  obtain⟨s,d⟩:=p
  rw[hc] at h2
  rw[L7 M _ _ _ hc]
  simp only[Bool.and_eq_true,Bool.not_eq_true',decide_eq_true_eq] at h2 ⊢
  refine⟨h2.1,?_,h2.2.2⟩
  rw[Bool.eq_false_iff]
  intro ha
  have:=Kh M ha
  rw[h2.2.1] at this
  cases this
end
def jK:aa:=nC (vE 3)
def jL (x:aa):aa:=if bH x=true then x else jK
def jp (c r:Int) (p:aA):aA:=((if p.2.1=true then p.1.1 else p.1.1+c,if p.2.2.1=true then p.1.2.1 else p.1.2.1+r,()),p.2.1,p.2.2.1,())
def mh (x:aa) (a:aA):aa:=(x.1,x.2.1,x.2.2.1,a,x.2.2.2.2.1,x.2.2.2.2.2.1,())
def FW (x:aa) (b:aA):aa:=(x.1,x.2.1,x.2.2.1,x.2.2.2.1,b,x.2.2.2.2.2.1,())
def j0 (c r:Int) (x:aa):aa :=
 if x.1=2 then jL (mh x (jp c r x.2.2.2.1)) else if x.1=3 then jL (FW (mh x (jp c r x.2.2.2.1)) (jp c r x.2.2.2.2.1)) else x
def fq (row many:Int) (closed:Bool) (other n:Int):Int:=if n < row then n else if closed=false then n+many else if n < row+many then other else n - many
def rowP (row many:Int) (closed:Bool) (other:Int) (p:aA):aA:=((p.1.1,fq row many closed other p.1.2.1,()),p.2.1,p.2.2.1,())
def fD (row many:Int) (closed:Bool) (x:aa):aa :=
 if x.1=2 then(if closed=true∧row≤x.2.2.2.1.1.2.1∧x.2.2.2.1.1.2.1 < row+many then jK else jL (mh x (rowP row many closed row x.2.2.2.1)))
 else if x.1=3 then jL (FW (mh x (rowP row many closed row x.2.2.2.1)) (rowP row many closed (row - 1) x.2.2.2.2.1)) else x
theorem L8:bH jK=true:=by decide
theorem Bd (x:aa):bH (jL x)=true:=by
 unfold jL
 split
 ·assumption
 ·exact L8
theorem Be {x:aa} (h:bH x=true) (k:x.1=2∨x.1=3):x.2.2.2.2.2.1=[]:=by
 have hk:kl x=(x.2.2.2.2.2.1.length:Int):=rfl
 unfold bH at h
 have e:x.2.2.2.2.2.1.length=0:=by
  rcases k with k | k
  ·rw[if_neg (by omega),if_pos k] at h
   simp only[Bool.and_eq_true,decide_eq_true_eq] at h
   have:=h.1.2
   omega
  ·rw[if_neg (by omega),if_neg (by omega),if_pos k] at h
   simp only[Bool.and_eq_true,decide_eq_true_eq] at h
   have:=h.1.2
   omega
 exact List.length_eq_zero_iff.1 e
theorem nQ (x:aa):(jL x).1=x.1∨(jL x).1=1:=by
 unfold jL
 split
 ·exact .inl rfl
 ·exact .inr rfl
theorem uL {x:aa} (h:x.2.2.2.2.2.1=[]):(jL x).2.2.2.2.2.1=[]:=by
 unfold jL
 split
 ·exact h
 ·rfl
theorem PH (c r:Int):TI (j0 c r) where
 ok x h:=by
  unfold j0
  split
  ·exact Bd _
  ·split
   ·exact Bd _
   ·exact h
 kids x h:=by
  unfold j0
  split
  ·rename_i k
   have e:=Be h (.inl k)
   rw[e]
   exact uL e
  ·split
   ·rename_i k
    have e:=Be h (.inr k)
    rw[e]
    exact uL e
   ·rfl
 six x h:=by
  unfold j0
  split
  ·rename_i k
   have:=nQ (mh x (jp c r x.2.2.2.1))
   have e:(mh x (jp c r x.2.2.2.1)).1=x.1:=rfl
   omega
  ·split
   ·rename_i k
    have:=nQ (FW (mh x (jp c r x.2.2.2.1)) (jp c r x.2.2.2.2.1))
    have e:(FW (mh x (jp c r x.2.2.2.1)) (jp c r x.2.2.2.2.1)).1=x.1:=rfl
    omega
   ·exact Iff.rfl
 three x h:=by
  unfold j0 at h
  split at h
  ·rename_i k
   have:=nQ (mh x (jp c r x.2.2.2.1))
   have e:(mh x (jp c r x.2.2.2.1)).1=x.1:=rfl
   omega
  ·split at h
   ·assumption
   ·exact h
theorem Ki (row many:Int) (closed:Bool):TI (fD row many closed) where
 ok x h:=by
  unfold fD
  split
  ·split
   ·exact L8
   ·exact Bd _
  ·split
   ·exact Bd _
   ·exact h
 kids x h:=by
  unfold fD
  split
  ·rename_i k
   have e:=Be h (.inl k)
   rw[e]
   split
   ·rfl
   ·exact uL e
  ·split
   ·rename_i k
    have e:=Be h (.inr k)
    rw[e]
    exact uL e
   ·rfl
 six x h:=by
  unfold fD
  split
  ·rename_i k
   split
   ·have e:jK.1=1:=rfl
    omega
   ·have:=nQ (mh x (rowP row many closed row x.2.2.2.1))
    have e:(mh x (rowP row many closed row x.2.2.2.1)).1=x.1:=rfl
    omega
  ·split
   ·rename_i k
    have:=nQ (FW (mh x (rowP row many closed row x.2.2.2.1)) (rowP row many closed (row - 1) x.2.2.2.2.1))
    have e:(FW (mh x (rowP row many closed row x.2.2.2.1)) (rowP row many closed (row - 1) x.2.2.2.2.1)).1=x.1:=rfl
    omega
   ·exact Iff.rfl
 three x h:=by
  unfold fD at h
  split at h
  ·rename_i k
   split at h
   ·cases h
   ·have:=nQ (mh x (rowP row many closed row x.2.2.2.1))
    have e:(mh x (rowP row many closed row x.2.2.2.1)).1=x.1:=rfl
    omega
  ·split at h
   ·assumption
   ·exact h
noncomputable def iz (x:ByteArray):Option (List aa):=if(lb x).head? = some 61∧(gw (ba ((lb x).drop 1))).2=true then some (gw (ba ((lb x).drop 1))).1 else none
noncomputable def qZ (g:aa→aa) (x:ByteArray):Option ByteArray:=match iz x with
 | none=>some x
 | some f=>if bN (f.map g)≠[]∧(bN (f.map g)).length < 200 then some (ba (61 :: bN (f.map g))) else none
theorem tH {x:ByteArray} {f:List aa} (h:iz x=some f) (hx:x.size≤9223372036854775807):fp f=true:=by
 unfold iz at h
 split at h
 ·rename_i k
  cases h
  have hl:(ba ((lb x).drop 1)).size≤9223372036854775807:=by
   rw[aq,List.length_drop,pP]
   omega
  exact(qY hl).2.2.1 k.2
 ·cases h
theorem Ra {f:List aa} (h:bN f≠[]):bN f=fT f∧fp f=true:=by
 unfold bN at h ⊢
 by_cases k:fp f=true∧(fT f).length≤200
 ·rw[if_pos k]
  exact⟨rfl,k.1⟩
 ·rw[if_neg k] at h
  exact absurd rfl h
theorem FX {g:aa→aa} {x y:ByteArray} (hx:dH x=true) (h:qZ g x=some y):dH y=true:=by
 unfold qZ at h
 cases hf:iz x with
 | none =>
  rw[hf] at h
  cases h
  exact hx
 | some f =>
  rw[hf] at h
  simp only at h
  split at h
  ·rename_i k
   cases h
   obtain⟨e1,e2⟩:=Ra k.1
   rw[e1] at k ⊢
   exact Ld e2 k.2 k.1
  ·cases h
end Go.Proofs.YtddiiceaindlhaaGreatDoor.Abs
set_option linter.unusedVariables false
set_option linter.unusedSimpArgs false
set_option linter.unusedSectionVars false
namespace Go.Proofs.YtddiiceaindlhaaGreatDoor.Abs
open Go
theorem RC (p:aA):bH (nP p)=ao p.1:=by
 unfold bH kl
 simp[v0,p0]
theorem RD (p q:aA):bH (nA p q)=cf (p.1,q.1,()):=by
 unfold bH kl
 simp[v0,p0]
theorem Rb (r:ai):cf (r,r,())=ao r:=by
 unfold cf
 simp
theorem PI (p:aA):bq (nP p)=some ((ao p.1,()),()):=by
 rw[lj,pO]
 simp only[bne_self_eq_false,Bool.false_eq_true,if_false,beq_self_eq_true,if_true,Option.bind_some,lZ,Rb]
theorem PJ (p q:aA):bq (nA p q)=some ((cf (p.1,q.1,()),()),()):=by
 rw[lj,pO]
 simp only[show((3:Int) != 2)=true from rfl,show((3:Int) != 3)=false from rfl,show((3:Int) == 2)=false from rfl,Bool.false_eq_true,if_false,if_true,Option.bind_some,lZ]
theorem r6 {l:List Int} (h:l.length≤1000000):ak l=some ((l,()),()):=by
 rw[pf]
 unfold fk
 simp only[gQ?,dite_true,Option.bind_some]
 exact if_pos (by omega)
theorem xZ:ak ([]:List Int)=some (([],()),()):=r6 (by decide)
theorem FY {op:Int} {k:Nat} (h:jW op (k:Int)=true):k≤1000:=by
 unfold jW at h
 split at h
 ·simp only[Bool.or_eq_true,decide_eq_true_eq] at h
  omega
 ·split at h
  ·have:=bd.1 h
   omega
  ·split at h
   ·simp only[decide_eq_true_eq] at h
    omega
   ·cases h
theorem ya {G:aa→Int→Int→Option ((aa×Unit)×(Int×(Int×Unit)))} {P:List aa→Int→Int→Int→Int→List aa→Option ((List aa×Unit)×(Int×(Int×Unit)))}
  (hP : ∀ x0 x1 x2 x3 x4 x5,P x0 x1 x2 x3 x4 x5=if(decide (x2 < x1))=true then(ix x0 x2 (af.dflt) fun y1=>(if(y1.1 == 2)=true then((G y1 x3 x4).bind fun z1=>((bq z1.1.1).bind fun z2=>(if(!z2.1.1)=true then((jM 3).bind fun z3=>((ak ([]:(List Int))).bind fun z4=>(app x5 ([(1,0,z3.1.1,((0,0,()),false,false,()),((0,0,()),false,false,()),z4.1.1,())]:(List aa)) 120 fun y2=>(P x0 x1 (IntKind.i64.wrap (x2+1)) z1.2.1 z1.2.2.1 y2)))) else((ak z1.1.1.2.2.2.2.2.1).bind fun z5=>(app x5 ([(z1.1.1.1,z1.1.1.2.1,z1.1.1.2.2.1,z1.1.1.2.2.2.1,z1.1.1.2.2.2.2.1,z5.1.1,())]:(List aa)) 120 fun y3=>(P x0 x1 (IntKind.i64.wrap (x2+1)) z1.2.1 z1.2.2.1 y3)))))) else(if(y1.1 == 3)=true then((G y1 x3 x4).bind fun z6=>((bq z6.1.1).bind fun z7=>(if(!z7.1.1)=true then((jM 3).bind fun z8=>((ak ([]:(List Int))).bind fun z9=>(app x5 ([(1,0,z8.1.1,((0,0,()),false,false,()),((0,0,()),false,false,()),z9.1.1,())]:(List aa)) 120 fun y4=>(P x0 x1 (IntKind.i64.wrap (x2+1)) z6.2.1 z6.2.2.1 y4)))) else((ak z6.1.1.2.2.2.2.2.1).bind fun z10=>(app x5 ([(z6.1.1.1,z6.1.1.2.1,z6.1.1.2.2.1,z6.1.1.2.2.2.1,z6.1.1.2.2.2.2.1,z10.1.1,())]:(List aa)) 120 fun y5=>(P x0 x1 (IntKind.i64.wrap (x2+1)) z6.2.1 z6.2.2.1 y5)))))) else((ak y1.2.2.2.2.2.1).bind fun z11=>(app x5 ([(y1.1,y1.2.1,y1.2.2.1,y1.2.2.2.1,y1.2.2.2.2.1,z11.1.1,())]:(List aa)) 120 fun y6=>(P x0 x1 (IntKind.i64.wrap (x2+1)) x3 x4 y6)))))) else(some ((x5,()),(x3,x4,()))))
  {a b:Int} {A B C:aA→aA} {g:aa→aa} (h2 : ∀ p,ao p.1=true→G (nP p) a b=some ((nP (A p),()),a,b,())) (h3 : ∀ p q,cf (p.1,q.1,())=true→G (nA p q) a b=some ((nA (B p) (C q),()),a,b,()))
  (g2 : ∀ p,ao p.1=true→g (nP p)=if ao (A p).1=true then nP (A p) else jK) (g3 : ∀ p q,cf (p.1,q.1,())=true→g (nA p q)=if cf ((B p).1,(C q).1,())=true then nA (B p) (C q) else jK)
  (g1 : ∀ x,x.1≠2→x.1≠3→g x=x) {f:List aa} (hl:f.length≤1000000) :
  ∀(ys pre acc:List aa),f=pre++ys→(∀ x∈ys,bH x=true)→acc.length≤pre.length→P f (f.length:Int) (pre.length:Int) a b acc=some ((acc++ys.map g,()),a,b,())
 | [],pre,acc,h,_,_=>by
  rw[hP,aE (ct h)]
  simp
 | y :: ys,pre,acc,h,hy,ha=>by
  have hlen:f.length=pre.length+(ys.length+1):=by rw[h]; simp
  have ih:=fun z=>ya hP h2 h3 g2 g3 g1 hl ys (pre++[y]) (acc++[z]) (aZ h) (fun x hx=>hy x (List.mem_cons_of_mem _ hx)) (by simp; omega)
  rw[hP,aI (cK h),bU h,bk h (by omega)]
  have happ : ∀(z:aa) (k:List aa→Option ((List aa×Unit)×(Int×(Int×Unit)))),app acc [z] 120 k=k (acc++[z]):=fun z k=>bG (by simp only[List.length_singleton]; omega)
  have same:y.1≠2→y.1≠3→y.2.2.2.2.2.1.length≤1000000→some ((acc++y :: ys.map g,()),a,b,())=some ((acc++(y :: ys).map g,()),a,b,()):=fun k2 k3 _=>by rw[List.map_cons,g1 y k2 k3]
  cases r5 (hy y List.mem_cons_self) with
  | con v k0 k1 k2 =>
   simp only[show((1:Int) == 2)=false from rfl,show((1:Int) == 3)=false from rfl,Bool.false_eq_true,if_false,xZ,Option.bind_some,happ,ih,List.append_assoc,List.singleton_append,List.map_cons]
   rw[g1 (nC v) (by show(1:Int)≠2; decide) (by show(1:Int)≠3; decide)]
  | cell p k =>
   simp only[beq_self_eq_true,if_true,h2 p k,Option.bind_some,PI,uA,xZ,happ,ih,List.append_assoc,List.singleton_append,List.map_cons,g2 p k]
   cases ao (A p).1 with
   | true=>simp only[Bool.not_true,Bool.false_eq_true,if_false,if_true]
   | false=>simp only[Bool.not_false,Bool.false_eq_true,if_false,if_true]; rfl
  | area p q k =>
   simp only[show((3:Int) == 2)=false from rfl,Bool.false_eq_true,if_false,beq_self_eq_true,if_true,h3 p q k,Option.bind_some,PJ,uA,xZ,happ,ih,List.append_assoc,List.singleton_append,List.map_cons,g3 p q k]
   cases cf ((B p).1,(C q).1,()) with
   | true=>simp only[Bool.not_true,Bool.false_eq_true,if_false,if_true]
   | false=>simp only[Bool.not_false,Bool.false_eq_true,if_false,if_true]; rfl
  | neg k =>
   simp only[show((4:Int) == 2)=false from rfl,show((4:Int) == 3)=false from rfl,Bool.false_eq_true,if_false,r6 (l:=[k]) (by simp),Option.bind_some,happ,ih,List.append_assoc,List.singleton_append,List.map_cons]
   rw[g1 (4,0,v0,p0,p0,[k],()) (by show(4:Int)≠2; decide) (by show(4:Int)≠3; decide)]
  | bin op k k' k0 k1 =>
   simp only[show((5:Int) == 2)=false from rfl,show((5:Int) == 3)=false from rfl,Bool.false_eq_true,if_false,r6 (l:=[k,k']) (by simp),Option.bind_some,happ,ih,List.append_assoc,List.singleton_append,List.map_cons]
   rw[g1 (5,op,v0,p0,p0,[k,k'],()) (by show(5:Int)≠2; decide) (by show(5:Int)≠3; decide)]
  | call op ks k =>
   have:=FY k
   simp only[show((6:Int) == 2)=false from rfl,show((6:Int) == 3)=false from rfl,Bool.false_eq_true,if_false,r6 (l:=ks) (by omega),Option.bind_some,happ,ih,List.append_assoc,List.singleton_append,List.map_cons]
   rw[g1 (6,op,v0,p0,p0,ks,()) (by show(6:Int)≠2; decide) (by show(6:Int)≠3; decide)]
theorem wO {p:aA} {c r:Int} (hp:ao p.1=true) (hc : -1000≤c∧c≤1000) (hr : -1000≤r∧r≤1000):lT p c r=some ((jp c r p,()),())∧na p c r=some ((jp c r p,()),()):=by
 obtain⟨⟨a,b,⟨⟩⟩,fc,fr,⟨⟩⟩:=p
 have hp':=bA.1 hp
 dsimp only at hp'
 rw[Bj,K2]
 unfold jp
 dsimp only
 rw[dE (n:=a+c) (by omega) (by omega),dE (n:=b+r) (by omega) (by omega)]
 cases fc <;> cases fr <;> exact⟨rfl,rfl⟩
theorem PK (p:aA):jL (nP p)=if ao p.1=true then nP p else jK:=by
 unfold jL
 rw[RC]
theorem PL (p q:aA):jL (nA p q)=if cf (p.1,q.1,())=true then nA p q else jK:=by
 unfold jL
 rw[RD]
theorem TJ (c r:Int) (p:aA):j0 c r (nP p)=if ao (jp c r p).1=true then nP (jp c r p) else jK:=by
 rw[←PK]
 unfold j0
 rw[if_pos rfl]
 rfl
theorem TK (c r:Int) (p q:aA):j0 c r (nA p q)=if cf ((jp c r p).1,(jp c r q).1,())=true then nA (jp c r p) (jp c r q) else jK:=by
 rw[←PL]
 unfold j0
 rw[if_neg (by show ¬(3:Int)=2; decide),if_pos rfl]
 rfl
theorem Kj (c r:Int) (x:aa) (h2:x.1≠2) (h3:x.1≠3):j0 c r x=x:=by
 unfold j0
 rw[if_neg h2,if_neg h3]
theorem FZ (row many:Int) (closed:Bool) (x:aa) (h2:x.1≠2) (h3:x.1≠3):fD row many closed x=x:=by
 unfold fD
 rw[if_neg h2,if_neg h3]
theorem Rc (row many:Int) (closed:Bool) (p q:aA):fD row many closed (nA p q)=if cf ((rowP row many closed row p).1,(rowP row many closed (row - 1) q).1,())=true then nA (rowP row many closed row p) (rowP row many closed (row - 1) q) else jK:=by
 rw[←PL]
 unfold fD
 rw[if_neg (by show ¬(3:Int)=2; decide),if_pos rfl]
 rfl
theorem RE (row many:Int) (closed:Bool) (p:aA):fD row many closed (nP p)=if closed=true∧row≤p.1.2.1∧p.1.2.1 < row+many then jK else if ao (rowP row many closed row p).1=true then nP (rowP row many closed row p) else jK:=by
 rw[←PK]
 unfold fD
 rw[if_pos rfl]
 rfl
theorem TL (row many:Int) (closed:Bool) (p:aA):fD row many closed (nP p)=if ao (rowP row many closed 0 p).1=true then nP (rowP row many closed 0 p) else jK:=by
 rw[RE]
 unfold rowP fq
 dsimp only
 by_cases k:closed=true∧row≤p.1.2.1∧p.1.2.1 < row+many
 ·obtain⟨rfl,k1,k2⟩:=k
  rw[if_pos ⟨rfl,k1,k2⟩,if_neg]
  intro h
  rw[if_neg (by omega),if_neg (by decide),if_pos k2] at h
  have:=(bA.1 h).2
  dsimp only at this
  omega
 ·rw[if_neg k]
  by_cases k1:p.1.2.1 < row
  ·simp only[if_pos k1]
  ·by_cases k2:closed=false
   ·simp only[if_neg k1,if_pos k2]
   ·have k3 : ¬p.1.2.1 < row+many:=fun h=>k ⟨by simpa using k2,by omega,h⟩
    simp only[if_neg k1,if_neg k2,if_neg k3]
section
variable {f:List aa} (hf:fp f=true)
include hf
theorem q4:f.length≤60 ∧ ∀ x∈f,bH x=true:=by
 refine⟨(Aa hf).1,fun x hx => ?_⟩
 obtain⟨i,hi,rfl⟩:=List.getElem_of_mem hx
 exact(l4 hf i f[i] (List.getElem?_eq_getElem hi)).1
theorem Le {c r:Int} (hc : -1000≤c∧c≤1000) (hr : -1000≤r∧r≤1000):Cm f c r=some ((f.map (j0 c r),()),()):=by
 obtain⟨hl,hn⟩:=q4 hf
 have h:=ya (G:=rR) (P:=bX) (fun _ _ _ _ _ _=>rU) (a:=c) (b:=r) (A:=jp c r) (B:=jp c r) (C:=jp c r) (g:=j0 c r) (fun p k=>by
   rw[yr,(wO k hc hr).1]
   simp only[Option.bind_some,show((2:Int) == 3)=false from rfl,Bool.false_eq_true,if_false]) (fun p q k=>by
   rw[yr,(wO (dP k).1 hc hr).1,(wO (dP k).2 hc hr).1]
   simp only[Option.bind_some,beq_self_eq_true,if_true]) (fun p _=>TJ c r p) (fun p q _=>TK c r p q) (Kj c r) (f:=f) (by omega) f [] [] rfl hn (Nat.le_refl _)
 rw[KZ,ve]
 have h':bX f (f.length:Int) 0 c r []=some ((f.map (j0 c r),()),c,r,()):=h
 rw[h']
 rfl
theorem EI {row many:Int} (hr:1≤row∧row≤1000) (hm : -1000≤many∧many≤1000):AG f row many=some ((f.map (fD row many false),()),()):=by
 obtain⟨hl,hn⟩:=q4 hf
 have key : ∀ p:aA,ao p.1=true→(decide (p.1.2.1≥row)=true→IntKind.i64.wrap (p.1.2.1+many)=(rowP row many false 0 p).1.2.1)∧(¬decide (p.1.2.1≥row)=true→p.1.2.1=(rowP row many false 0 p).1.2.1):=fun p k=>by
  have:=bA.1 k
  unfold rowP fq
  dsimp only
  refine⟨fun h => ?_,fun h => ?_⟩
  ·rw[decide_eq_true_eq] at h
   rw[dE (by omega) (by omega),if_neg (by omega),if_pos rfl]
  ·rw[decide_eq_true_eq] at h
   rw[if_pos (by omega)]
 have same : ∀(n:Int) (p:aA),rowP row many false n p=rowP row many false 0 p:=fun n p=>by
  unfold rowP fq
  split
  ·rfl
  ·rw[if_pos rfl,if_pos rfl]
 have form : ∀(o:Int) (p:aA),((p.1.1,(rowP row many false 0 p).1.2.1,()),p.2.1,p.2.2.1,())=rowP row many false 0 p:=fun _ p=>rfl
 have h:=ya (G:=uk) (P:=cd) (fun _ _ _ _ _ _=>tu) (a:=row) (b:=many) (A:=rowP row many false 0) (B:=rowP row many false 0) (C:=rowP row many false 0) (g:=fD row many false) (fun p k=>by
   obtain⟨k1,k2⟩:=key p k
   have h0 : ¬decide ((0:Int)≥row)=true:=by rw[decide_eq_true_eq]; omega
   rw[zy,if_neg h0,if_neg h0]
   by_cases kk:decide (p.1.2.1≥row)=true
   ·rw[if_pos kk,k1 kk]
    rfl
   ·rw[if_neg kk]
    have:p=rowP row many false 0 p:=by
     rw[←form 0 p,←k2 kk]
    rw[←this]) (fun p q k=>by
   obtain⟨k1,k2⟩:=key p (dP k).1
   obtain⟨k3,k4⟩:=key q (dP k).2
   rw[zy]
   dsimp only
   by_cases kk:decide (p.1.2.1≥row)=true <;> by_cases kq:decide (q.1.2.1≥row)=true
   ·rw[if_pos kk,if_pos kq,k1 kk,k3 kq]
    rfl
   ·have e:q=rowP row many false 0 q:=by rw[←form 0 q,←k4 kq]
    rw[if_pos kk,if_neg kq,k1 kk,←e]
    rfl
   ·have e:p=rowP row many false 0 p:=by rw[←form 0 p,←k2 kk]
    rw[if_neg kk,if_pos kq,k3 kq,←e]
    rfl
   ·have e:p=rowP row many false 0 p:=by rw[←form 0 p,←k2 kk]
    have e':q=rowP row many false 0 q:=by rw[←form 0 q,←k4 kq]
    rw[if_neg kk,if_neg kq,←e,←e']) (fun p _=>TL row many false p) (fun p q _=>by rw[Rc,same,same (row - 1)]) (FZ row many false) (f:=f) (by omega) f [] [] rfl hn (Nat.le_refl _)
 rw[MS,wm]
 have h':cd f (f.length:Int) 0 row many []=some ((f.map (fD row many false),()),row,many,()):=h
 rw[h']
 rfl
theorem EJ {row many:Int} (hr:1≤row∧row≤1000) (hm:0≤many∧many≤1000):AH f row many=some ((f.map (fD row many true),()),()):=by
 obtain⟨hl,hn⟩:=q4 hf
 have hw:IntKind.i64.wrap (row+many)=row+many:=dE (by omega) (by omega)
 have keyV : ∀(o:Int) (r0:Int),-1000≤r0∧r0≤1000→(if decide (r0≥row+many)=true then IntKind.i64.wrap (r0 - many) else if decide (r0≥row)=true then o else r0)=fq row many true o r0:=fun o r0 hb=>by
  unfold fq
  simp only[decide_eq_true_eq,Bool.true_eq_false,if_false]
  by_cases c1:r0 < row
  ·rw[if_pos c1,if_neg (by omega),if_neg (by omega)]
  ·rw[if_neg c1]
   by_cases c2:r0 < row+many
   ·rw[if_pos c2,if_neg (by omega),if_pos (by omega)]
   ·rw[if_neg c2,if_pos (by omega),dE (by omega) (by omega)]
 have less1 : ∀(o k1 k2:Int) (v:ax) (p:aA) (q:aA) (ks:List Int),-1000≤p.1.2.1∧p.1.2.1≤1000→ul o k1 k2 v p q ks row many=some ((),((k1,k2,v,rowP row many true o p,q,ks,()),row,many,())):=fun o k1 k2 v p q ks hb=>by
  rw[Jr,hw]
  unfold rowP
  rw[←keyV o p.1.2.1 hb]
  by_cases c1:decide (p.1.2.1≥row+many)=true
  ·simp only[if_pos c1]
  ·simp only[if_neg c1]
   by_cases c2:decide (p.1.2.1≥row)=true
   ·simp only[if_pos c2]
   ·simp only[if_neg c2]
 have less2 : ∀(o:Int) (p q:aA),-1000≤q.1.2.1∧q.1.2.1≤1000→xr o (nA p q) row many=some ((),(nA p (rowP row many true o q),row,many,())):=fun o p q hb=>by
  rw[HM,hw]
  unfold rowP
  rw[←keyV o q.1.2.1 hb]
  by_cases c1:decide (q.1.2.1≥row+many)=true
  ·simp only[if_pos c1]
  ·simp only[if_neg c1]
   by_cases c2:decide (q.1.2.1≥row)=true
   ·simp only[if_pos c2]
   ·simp only[if_neg c2]
 have h:=ya (G:=gA) (P:=bi) (fun _ _ _ _ _ _=>lY) (a:=row) (b:=many) (A:=rowP row many true 0) (B:=rowP row many true row) (C:=rowP row many true (row - 1)) (g:=fD row many true) (fun p k=>by
   have:=bA.1 k
   rw[ma,if_pos (by rfl),less1 0 2 0 _ p _ _ (by omega)]
   rfl) (fun p q k=>by
   have:=bA.1 (dP k).1
   have:=bA.1 (dP k).2
   rw[ma,if_neg (by show ¬((3:Int) == 2)=true; decide),less1 row 3 0 _ p q _ (by omega)]
   dsimp only[Option.bind_some]
   rw[dE (n:=row - 1) (by omega) (by omega)]
   have h2:=less2 (row - 1) (rowP row many true row p) q (by omega)
   rw[h2]
   rfl) (fun p _=>TL row many true p) (fun p q _=>Rc row many true p q) (FZ row many true) (f:=f) (by omega) f [] [] rfl hn (Nat.le_refl _)
 rw[MT,nc]
 have h':bi f (f.length:Int) 0 row many []=some ((f.map (fD row many true),()),row,many,()):=h
 rw[h']
 rfl
end
end Go.Proofs.YtddiiceaindlhaaGreatDoor.Abs
set_option linter.unusedVariables false
set_option linter.unusedSimpArgs false
set_option linter.unusedSectionVars false
namespace Go.Proofs.YtddiiceaindlhaaGreatDoor.Abs
open Go
theorem uM {n row many other:Int} {closed:Bool} (hn : -1000≤n∧n≤1000) (hr : -1000≤row∧row≤1000) (hm : -1000≤many∧many≤1000):eT n row many closed other=some ((fq row many closed other n,()),()):=by
 rw[OM,dE (n:=n+many) (by omega) (by omega),dE (n:=row+many) (by omega) (by omega),dE (n:=n - many) (by omega) (by omega)]
 unfold fq
 simp only[decide_eq_true_eq]
 by_cases h1:n < row
 ·simp only[if_pos h1]
 ·simp only[if_neg h1]
  cases closed with
  | false=>rfl
  | true =>
   simp only[Bool.not_true,Bool.false_eq_true,if_false,Bool.true_eq_false]
   by_cases h2:n < row+many
   ·simp only[if_pos h2]
   ·simp only[if_neg h2]
theorem r7:dn=some ((jK,()),()):=by
 rw[MW,BQ]
 rfl
theorem EK:(⟨#[]⟩:ByteArray).size≤9223372036854775807:=by decide
theorem PM (p:aA):bv (nP p)=some ((ao p.1,()),()):=by
 rw[fO EK,RC]
theorem PN (p q:aA):bv (nA p q)=some ((cf (p.1,q.1,()),()),()):=by
 rw[fO EK,RD]
theorem Hb {row many:Int} {closed:Bool} (hr:1≤row∧row≤1000) (hm : -1000≤many∧many≤1000) {f:List aa} (hl:f.length≤1000000) :
  ∀(ys pre acc:List aa),f=pre++ys→(∀ x∈ys,bH x=true)→acc.length≤pre.length→bc f row many closed (pre.length:Int) acc=some ((acc++ys.map (fD row many closed),()),())
 | [],pre,acc,h,_,_=>by
  rw[ym,aE (ct h)]
  simp
 | y :: ys,pre,acc,h,hy,ha=>by
  have hlen:f.length=pre.length+(ys.length+1):=by rw[h]; simp
  have ih:=fun z=>Hb hr hm hl ys (pre++[y]) (acc++[z]) (aZ h) (fun x hx=>hy x (List.mem_cons_of_mem _ hx)) (by simp; omega) (closed:=closed)
  rw[ym,aI (cK h),bU h,bk h (by omega)]
  have happ : ∀(z:aa) (k:List aa→Option ((List aa×Unit)×Unit)),app acc [z] 120 k=k (acc++[z]):=fun z k=>bG (by simp only[List.length_singleton]; omega)
  have hk : ∀(l:List Int) (k:List Int→Option ((List aa×Unit)×Unit)),l.length≤1000000→app [] l 8 k=k l:=fun l k hl=>bG (by simp only[List.length_nil]; omega)
  cases r5 (hy y List.mem_cons_self) with
  | con v k0 k1 k2 =>
   rw[hk [] _ (by decide)]
   simp only[show((1:Int) == 2)=false from rfl,show((1:Int) == 3)=false from rfl,Bool.false_eq_true,if_false,Option.bind_some,happ,ih,List.append_assoc,List.singleton_append,List.map_cons]
   rw[FZ row many closed (nC v) (by show(1:Int)≠2; decide) (by show(1:Int)≠3; decide)]
  | cell p k =>
   have hb:=bA.1 k
   rw[hk [] _ (by decide)]
   simp only[show((2:Int) == 3)=false from rfl,Bool.false_eq_true,if_false,beq_self_eq_true,if_true]
   have e1:eT p.1.2.1 row many closed row=some ((fq row many closed row p.1.2.1,()),()):=uM (by omega) (by omega) hm
   have e2 : ∀ z,bv (2,0,(0,0,(⟨#[]⟩:ByteArray),()),((p.1.1,z,()),p.2.1,p.2.2.1,()),((0,0,()),false,false,()),([]:List Int),())=some ((ao (p.1.1,z,()),()),()):=fun z=>PM ((p.1.1,z,()),p.2.1,p.2.2.1,())
   simp only[e1,Option.bind_some,e2,r7,happ,ih,List.append_assoc,List.singleton_append,List.map_cons,RE]
   have hrp:(rowP row many closed row p).1=(p.1.1,fq row many closed row p.1.2.1,()):=rfl
   rw[hrp]
   cases closed with
   | false =>
    simp only[Bool.false_eq_true,if_false,false_and]
    cases ao (p.1.1,fq row many false row p.1.2.1,()) with
    | true=>simp only[Bool.not_true,Bool.false_eq_true,if_false,if_true]; rfl
    | false=>simp only[Bool.not_false,Bool.false_eq_true,if_false,if_true]
   | true =>
    simp only[if_true,true_and,eJ,Option.bind_some]
    rw[dE (n:=row+many) (by omega) (by omega),dE (n:=row+many - 1) (by omega) (by omega)]
    by_cases kk:row≤p.1.2.1∧p.1.2.1 < row+many
    ·rw[if_pos (bd.2 (by omega)),if_pos kk]
    ·rw[if_neg (fun h=>kk (by have:=bd.1 h; omega)),if_neg kk]
     cases ao (p.1.1,fq row many true row p.1.2.1,()) with
     | true=>simp only[Bool.not_true,Bool.false_eq_true,if_false,if_true]; rfl
     | false=>simp only[Bool.not_false,Bool.false_eq_true,if_false,if_true]
  | area p q k =>
   have hb:=bA.1 (dP k).1
   have hc:=bA.1 (dP k).2
   rw[hk [] _ (by decide)]
   simp only[show((3:Int) == 2)=false from rfl,Bool.false_eq_true,if_false,beq_self_eq_true,if_true]
   have e1:eT p.1.2.1 row many closed row=some ((fq row many closed row p.1.2.1,()),()):=uM (by omega) (by omega) hm
   have e3:eT q.1.2.1 row many closed (row - 1)=some ((fq row many closed (row - 1) q.1.2.1,()),()):=uM (by omega) (by omega) hm
   have e2 : ∀ z z',bv (3,0,(0,0,(⟨#[]⟩:ByteArray),()),((p.1.1,z,()),p.2.1,p.2.2.1,()),((q.1.1,z',()),q.2.1,q.2.2.1,()),([]:List Int),())=some ((cf ((p.1.1,z,()),(q.1.1,z',()),()),()),()):=fun z z'=>PN ((p.1.1,z,()),p.2.1,p.2.2.1,()) ((q.1.1,z',()),q.2.1,q.2.2.1,())
   rw[dE (n:=row - 1) (by omega) (by omega)]
   simp only[e1,e3,Option.bind_some,e2,r7,happ,ih,List.append_assoc,List.singleton_append,List.map_cons,Rc]
   have hrp:(rowP row many closed row p).1=(p.1.1,fq row many closed row p.1.2.1,()):=rfl
   have hrq:(rowP row many closed (row - 1) q).1=(q.1.1,fq row many closed (row - 1) q.1.2.1,()):=rfl
   rw[hrp,hrq]
   cases cf ((p.1.1,fq row many closed row p.1.2.1,()),(q.1.1,fq row many closed (row - 1) q.1.2.1,()),()) with
   | true=>simp only[Bool.not_true,Bool.false_eq_true,if_false,if_true]; rfl
   | false=>simp only[Bool.not_false,Bool.false_eq_true,if_false,if_true]
  | neg k =>
   rw[hk [k] _ (by simp)]
   simp only[show((4:Int) == 2)=false from rfl,show((4:Int) == 3)=false from rfl,Bool.false_eq_true,if_false,Option.bind_some,happ,ih,List.append_assoc,List.singleton_append,List.map_cons]
   rw[FZ row many closed (4,0,v0,p0,p0,[k],()) (by show(4:Int)≠2; decide) (by show(4:Int)≠3; decide)]
  | bin op k k' k0 k1 =>
   rw[hk [k,k'] _ (by simp)]
   simp only[show((5:Int) == 2)=false from rfl,show((5:Int) == 3)=false from rfl,Bool.false_eq_true,if_false,Option.bind_some,happ,ih,List.append_assoc,List.singleton_append,List.map_cons]
   rw[FZ row many closed (5,op,v0,p0,p0,[k,k'],()) (by show(5:Int)≠2; decide) (by show(5:Int)≠3; decide)]
  | call op ks k =>
   have:=FY k
   rw[hk ks _ (by omega)]
   simp only[show((6:Int) == 2)=false from rfl,show((6:Int) == 3)=false from rfl,Bool.false_eq_true,if_false,Option.bind_some,happ,ih,List.append_assoc,List.singleton_append,List.map_cons]
   rw[FZ row many closed (6,op,v0,p0,p0,ks,()) (by show(6:Int)≠2; decide) (by show(6:Int)≠3; decide)]
theorem Kk {c r:Int} (hc : -1000≤c∧c≤1000) (hr : -1000≤r∧r≤1000) {f:List aa} (hl:f.length≤1000000) :
  ∀(ys pre acc:List aa),f=pre++ys→(∀ x∈ys,bH x=true)→acc.length≤pre.length→ey f c r (pre.length:Int) acc=some ((acc++ys.map (j0 c r),true,()),())
 | [],pre,acc,h,_,_=>by
  rw[ww,aE (ct h)]
  simp
 | y :: ys,pre,acc,h,hy,ha=>by
  have hlen:f.length=pre.length+(ys.length+1):=by rw[h]; simp
  have ih:=fun z=>Kk hc hr hl ys (pre++[y]) (acc++[z]) (aZ h) (fun x hx=>hy x (List.mem_cons_of_mem _ hx)) (by simp; omega)
  rw[ww,aI (cK h),bU h,bk h (by omega)]
  have happ : ∀(z:aa) (k:List aa→Option ((List aa×(Bool×Unit))×Unit)),app acc [z] 120 k=k (acc++[z]):=fun z k=>bG (by simp only[List.length_singleton]; omega)
  have hk : ∀(l:List Int) (k:List Int→Option ((List aa×(Bool×Unit))×Unit)),l.length≤1000000→app [] l 8 k=k l:=fun l k hl=>bG (by simp only[List.length_nil]; omega)
  have hsmall : ∀(z:aa) (l:List Int) (o:Int),z=z:=fun _ _ _=>rfl
  cases r5 (hy y List.mem_cons_self) with
  | con v k0 k1 k2 =>
   rw[hk [] _ (by decide)]
   have hv:v.2.2.1.size≤9223372036854775807:=jn k0
   have e:bv (1,0,v,((0,0,()),false,false,()),((0,0,()),false,false,()),([]:List Int),())=some ((true,()),()):=by
    rw[fO hv,hy (nC v) List.mem_cons_self]
   simp only[show((1:Int) == 2)=false from rfl,show((1:Int) == 3)=false from rfl,Bool.false_eq_true,if_false,e,Bool.not_true,Option.bind_some,happ,ih,List.append_assoc,List.singleton_append,List.map_cons]
   rw[Kj c r (nC v) (by show(1:Int)≠2; decide) (by show(1:Int)≠3; decide)]
  | cell p k =>
   rw[hk [] _ (by decide)]
   have e2 : ∀ z,bv (2,0,(0,0,(⟨#[]⟩:ByteArray),()),z,((0,0,()),false,false,()),([]:List Int),())=some ((ao z.1,()),()):=PM
   simp only[show((2:Int) == 3)=false from rfl,Bool.false_eq_true,if_false,beq_self_eq_true,if_true,(wO k hc hr).2,e2,r7,Option.bind_some,happ,ih,List.append_assoc,List.singleton_append,List.map_cons,TJ]
   cases ao (jp c r p).1 with
   | true=>simp only[Bool.not_true,Bool.false_eq_true,if_false,if_true]
   | false=>simp only[Bool.not_false,Bool.false_eq_true,if_false,if_true]
  | area p q k =>
   rw[hk [] _ (by decide)]
   have e2 : ∀ z z',bv (3,0,(0,0,(⟨#[]⟩:ByteArray),()),z,z',([]:List Int),())=some ((cf (z.1,z'.1,()),()),()):=PN
   simp only[show((3:Int) == 2)=false from rfl,Bool.false_eq_true,if_false,beq_self_eq_true,if_true,(wO (dP k).1 hc hr).2,(wO (dP k).2 hc hr).2,e2,r7,Option.bind_some,happ,ih,List.append_assoc,List.singleton_append,List.map_cons,TK]
   cases cf ((jp c r p).1,(jp c r q).1,()) with
   | true=>simp only[Bool.not_true,Bool.false_eq_true,if_false,if_true]
   | false=>simp only[Bool.not_false,Bool.false_eq_true,if_false,if_true]
  | neg k =>
   rw[hk [k] _ (by simp)]
   have e:bv (4,0,v0,p0,p0,[k],())=some ((true,()),()):=by
    rw[fO EK,hy (4,0,v0,p0,p0,[k],()) List.mem_cons_self]
   simp only[show((4:Int) == 2)=false from rfl,show((4:Int) == 3)=false from rfl,Bool.false_eq_true,if_false,e,Bool.not_true,Option.bind_some,happ,ih,List.append_assoc,List.singleton_append,List.map_cons]
   rw[Kj c r (4,0,v0,p0,p0,[k],()) (by show(4:Int)≠2; decide) (by show(4:Int)≠3; decide)]
  | bin op k k' k0 k1 =>
   rw[hk [k,k'] _ (by simp)]
   have e:bv (5,op,v0,p0,p0,[k,k'],())=some ((true,()),()):=by
    rw[fO EK,hy (5,op,v0,p0,p0,[k,k'],()) List.mem_cons_self]
   simp only[show((5:Int) == 2)=false from rfl,show((5:Int) == 3)=false from rfl,Bool.false_eq_true,if_false,e,Bool.not_true,Option.bind_some,happ,ih,List.append_assoc,List.singleton_append,List.map_cons]
   rw[Kj c r (5,op,v0,p0,p0,[k,k'],()) (by show(5:Int)≠2; decide) (by show(5:Int)≠3; decide)]
  | call op ks k =>
   have:=FY k
   rw[hk ks _ (by omega)]
   have e:bv (6,op,v0,p0,p0,ks,())=some ((true,()),()):=by
    rw[fO EK,hy (6,op,v0,p0,p0,ks,()) List.mem_cons_self]
   simp only[show((6:Int) == 2)=false from rfl,show((6:Int) == 3)=false from rfl,Bool.false_eq_true,if_false,e,Bool.not_true,Option.bind_some,happ,ih,List.append_assoc,List.singleton_append,List.map_cons]
   rw[Kj c r (6,op,v0,p0,p0,ks,()) (by show(6:Int)≠2; decide) (by show(6:Int)≠3; decide)]
section
variable {f:List aa} (hf:fp f=true)
include hf
theorem Re {row many:Int} {closed:Bool} (hr:1≤row∧row≤1000) (hm : -1000≤many∧many≤1000):wc f row many closed=some ((f.map (fD row many closed),()),()):=by
 obtain⟨hl,hn⟩:=q4 hf
 rw[MX]
 exact Hb hr hm (by omega) f [] [] rfl hn (Nat.le_refl _)
theorem Lf {c r:Int}:Cn f c r=if bz c (-52) 52=true∧bz r (-99) 99=true then some ((f.map (j0 c r),true,()),()) else some (([],false,()),()):=by
 obtain⟨hl,hn⟩:=q4 hf
 have hs:=Aa hf
 rw[K3,mT (by omega) hs.2.1 hs.2.2,hf]
 simp only[Bool.not_true,Bool.false_eq_true,if_false,Option.bind_some,eJ]
 cases hc:bz c (-52) 52 with
 | false=>simp
 | true =>
  cases hr:bz r (-99) 99 with
  | false=>simp
  | true =>
   have h1:=bd.1 hc
   have h2:=bd.1 hr
   simp only[Bool.not_true,Bool.false_eq_true,if_false,and_self,if_true]
   exact Kk (by omega) (by omega) (by omega) f [] [] rfl hn (Nat.le_refl _)
end
end Go.Proofs.YtddiiceaindlhaaGreatDoor.Abs
