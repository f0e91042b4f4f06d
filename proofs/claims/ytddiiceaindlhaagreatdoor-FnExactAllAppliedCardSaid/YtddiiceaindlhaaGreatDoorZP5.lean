/- Plain laws: a right formula's text: how it begins, where its words end, what is put behind. -/
import Derived.Test.YtddiiceaindlhaaGreatDoorZP3
import Derived.Test.YtddiiceaindlhaaGreatDoorZP4
set_option linter.unusedVariables false
set_option linter.unusedSimpArgs false
set_option linter.unusedSectionVars false
namespace Go.Proofs.YtddiiceaindlhaaGreatDoor.Abs
open Go
def RX (c:UInt8):Bool:=decide (c=43) || decide (c=45) || decide (c=42) || decide (c=47) || decide (c=38) || decide (c=61) || decide (c=60) || decide (c=62) || decide (c=41) || decide (c=44)
def yW:ae→Bool
 | []=>true
 | c :: _=>RX c
theorem Gj (c:UInt8):RX c=true→aE c=false∧c≠32∧c≠34∧c≠58∧c≠40∧Ai c=false :=
 o7 (p:=fun c=>RX c=true→aE c=false∧c≠32∧c≠34∧c≠58∧c≠40∧Ai c=false) (by decide +kernel) c
theorem NS {r:ae} (h:yW r=true):bl r=r:=by
 cases r with
 | nil=>rfl
 | cons c t=>exact List.dropWhile_cons_of_neg (by rw[(Gj c h).2.2.2.2.2]; decide)
theorem NT {r:ae} (h:yW r=true):r.takeWhile aE=[]∧r.dropWhile aE=r:=by
 cases r with
 | nil=>exact⟨rfl,rfl⟩
 | cons c t =>
  have:=(Gj c h).1
  exact⟨List.takeWhile_cons_of_neg (by rw[this]; decide),List.dropWhile_cons_of_neg (by rw[this]; decide)⟩
theorem RY {r:ae} (h:yW r=true):r.head? ≠ some 34∧r.head? ≠ some 58∧r.head? ≠ some 32:=by
 cases r with
 | nil=>exact⟨by decide,by decide,by decide⟩
 | cons c t =>
  obtain⟨_,h1,h2,h3,_⟩:=Gj c h
  simp only[List.head?_cons,ne_eq,Option.some.injEq]
  exact⟨h2,h3,h1⟩
theorem uX {w r:ae} (hw:w.all aE=true) (h:r.takeWhile aE=[]∧r.dropWhile aE=r):(w++r).takeWhile aE=w∧(w++r).dropWhile aE=r:=by
 rw[List.all_eq_true] at hw
 obtain⟨h1,h2⟩:=h
 rw[List.takeWhile_append_of_pos hw,List.dropWhile_append_of_pos hw,h1,h2,List.append_nil]
 exact⟨rfl,rfl⟩
theorem Dg {w r:ae} (hw:w.all aE=true) (h:yW r=true):(w++r).takeWhile aE=w∧(w++r).dropWhile aE=r:=uX hw (NT h)
theorem NU {op:Int} (h0:1≤op) (h1:op≤11) (t:ae):yW (c7 op++t)=true:=by
 have : ∀ k:Fin 12,1≤k.val→(match c7 (k.val:Int) with | []=>false | c :: _=>RX c)=true:=by decide +kernel
 have h:=this ⟨op.toNat,by omega⟩ (by simp only; omega)
 simp only[Int.toNat_of_nonneg (show 0≤op by omega)] at h
 cases ho:c7 op with
 | nil=>rw[ho] at h; cases h
 | cons c l =>
  rw[ho] at h
  exact h
def PS (c:UInt8):Bool:=aE c || decide (c=34) || decide (c=35) || decide (c=40) || decide (c=45)
theorem Ml (c:UInt8):PS c=true→c≠32∧c≠61∧c≠62∧Ai c=false :=
 o7 (p:=fun c=>PS c=true→c≠32∧c≠61∧c≠62∧Ai c=false) (by decide +kernel) c
def Hy:ae→Bool
 | []=>false
 | c :: _=>PS c
theorem NV {m:ae} (h:Hy m=true):bl m=m:=by
 cases m with
 | nil=>cases h
 | cons c t=>exact List.dropWhile_cons_of_neg (by rw[(Ml c h).2.2.2]; decide)
theorem qc {m:ae} (h:Hy m=true) (r:ae):Hy (m++r)=true:=by
 cases m with
 | nil=>cases h
 | cons c t=>exact h
theorem PT {op:Int} (h0:1≤op) (h1:op≤11) {t:ae} (h:Hy t=true):dH (c7 op++t)=op:=by
 cases t with
 | nil=>cases h
 | cons c t =>
  obtain⟨_,h2,h3,_⟩:=Ml c h
  have:op=1∨op=2∨op=3∨op=4∨op=5∨op=6∨op=7∨op=8∨op=9∨op=10∨op=11:=by omega
  rcases this with rfl | rfl | rfl | rfl | rfl | rfl | rfl | rfl | rfl | rfl | rfl <;> simp[c7,dH,gO,h2,h3]
theorem Dh (op:Int):1≤cd op∧cd op≤4:=by
 unfold cd
 repeat' split
 all_goals omega
theorem Ir {r:ae} (h:r=[]∨r.head? = some 41∨r.head? = some 44):yW r=true∧dH r=0:=by
 rcases h with rfl | h | h
 ·exact⟨rfl,rfl⟩
 ·obtain⟨t,rfl⟩:=gC h
  exact⟨rfl,rfl⟩
 ·obtain⟨t,rfl⟩:=gC h
  exact⟨rfl,rfl⟩
theorem PU {l:ae} (h:l.all cZ=true):l.all aE=true:=by
 rw[List.all_eq_true] at h ⊢
 intro c hc
 unfold aE
 rw[h c hc]
 simp
theorem T5 {l:ae} (h:l.all en=true):l.all aE=true:=by
 rw[List.all_eq_true] at h ⊢
 intro c hc
 unfold aE
 rw[h c hc]
 simp
theorem mX {p:aB} (h:ar p.1=true):(eO p).all aE=true ∧ ∃ c t,eO p=c :: t∧(c=36∨en c=true):=by
 obtain⟨c,r,fc,fr,rfl,h1,h2,h3,h4⟩:=uR h
 have hu:(fL c).all en=true:=F1 ⟨c,by omega⟩ h1
 have hd:=Bn (pW r)
 have hx : ∀ b,(o8 b).all aE=true:=by decide
 show(rB c r fc fr).all aE=true ∧ ∃ d t,rB c r fc fr=d :: t∧_
 unfold rB
 refine⟨?_,?_⟩
 ·rw[List.all_append,List.all_append,List.all_append,hx,hx,T5 hu,PU hd]
  rfl
 ·cases fc with
  | true=>exact⟨36,_,rfl,.inl rfl⟩
  | false =>
   cases hcl:fL c with
   | nil =>
    have:=(pX c).1
    rw[hcl] at this
    simp at this
   | cons y l =>
    rw[hcl] at hu
    simp only[List.all_cons,Bool.and_eq_true] at hu
    exact⟨y,_,rfl,.inr hu.1⟩
theorem RZ (c:UInt8):(c=36∨en c=true)→c≠39∧c≠35∧c≠45∧c≠34∧c≠40∧cZ c=false :=
 o7 (p:=fun c=>(c=36∨en c=true)→c≠39∧c≠35∧c≠45∧c≠34∧c≠40∧cZ c=false) (by decide +kernel) c
theorem Rm {p:aB} (h:ar p.1=true):(bq (eO p)).2=false:=by
 obtain⟨_,c,t,e,hc⟩:=mX h
 obtain⟨n1,n2,n3,_,_,n4⟩:=RZ c hc
 have hp:=nG h
 have k : ∀ w:ae,(co w).2=false→eO p≠w:=fun w hw e=>by
  rw[←e,hp] at hw
  cases hw
 have k1:=k g5 (by decide +kernel)
 have k2:=k im (by decide +kernel)
 have hv:uS (eO p)=(9,0,eS,()):=by
  unfold uS
  rw[if_neg k1,if_neg k2,e,if_neg (by simp),if_neg (by simpa using n1),if_neg (by simpa using n2),if_neg (by simpa using n3),if_neg]
  intro hr
  unfold cu iz at hr
  simp[n4] at hr
 unfold bq
 rw[hv]
 rfl
theorem PV {f:List aa} {k:Nat} {x:aa} (h:f[k]? = some x):f.take k++[x]=f.take (k+1):=by
 rw[List.take_add_one,h]
 rfl
theorem Ar {f:List aa} (hf:f.length≤60) {k:Nat} {x:aa} (h:f[k]? = some x) (l:ae):az x (ba l) false (f.take k)=some (((k:Int),()),((ba l,f.take (k+1),false,()),())):=by
 have hk:=(List.getElem?_eq_some_iff.1 h).1
 have hl:(f.take k).length=k:=by rw[List.length_take]; omega
 obtain⟨i,h1,h2⟩:=wZ (x:=x) (l:=l) (b:=false) (ns:=f.take k) (by omega)
 rw[h1,h2 rfl (by omega),hl,if_pos ⟨rfl,by omega⟩,PV h,decide_eq_false (by omega)]
 rfl
def E0 (f:List aa) (n:Nat) (call:Bool):List Int→Int→Int→Prop
 | [],s,e=>s=e
 | y :: ys,s,e=>(∃ h,cQ f n y=some (s,h))∧(em f y=true→call=true)∧E0 f n call ys (y+1) e
theorem Kw {f:List aa} {n:Nat} {call:Bool} {kid m s e:Int} (hc : ∃ h,cQ f n kid=some (m,h)) (ha:em f kid=true→call=true) (he:kid+1=e) : ∀ {l:List Int} {s:Int},E0 f n call l s m→E0 f n call (l++[kid]) s e
 | [],s,h=>by
  have h:s=m:=h
  subst h
  exact⟨hc,ha,he⟩
 | y :: ys,s,h=>⟨h.1,h.2.1,Kw (s:=s) hc ha he h.2.2⟩
theorem PW {f:List aa} {n:Nat} {call:Bool} : ∀ {l:List Int} {cur:Int} {h:Nat} {s:Int} {h':Nat},dQ (cQ f n) f call l cur h=some (s,h')→E0 f n call l.reverse s cur
 | [],cur,h,s,h',e=>by
  simp only[dQ,Option.some.injEq,Prod.mk.injEq] at e
  exact e.1.symm
 | kid :: l,cur,h,s,h',e=>by
  simp only[dQ] at e
  split at e
  ·rename_i hk
   rw[Option.bind_eq_some_iff] at e
   obtain⟨p,hp,e⟩:=e
   rw[List.reverse_cons]
   exact Kw (s:=s) ⟨p.2,hp⟩ hk.2.2 (by omega) (PW e)
  ·cases e
theorem qd {f:List aa} {n:Nat} {k s:Int} {h:Nat} (e:cQ f (n+1) k=some (s,h)):0≤k ∧ ∃ x,f[k.toNat]? = some x∧eW f k=x∧bG x=true∧E0 f n (decide (x.1=6)) x.2.2.2.2.2.1 s k:=by
 simp only[cQ] at e
 split at e
 ·rename_i h0
  split at e
  ·cases e
  ·rename_i x hx
   split at e
   ·rename_i hok
    refine⟨h0,x,hx,?_,hok,?_⟩
    ·unfold eW
     rw[List.getD_eq_getElem?_getD,hx]
     rfl
    ·have:=PW e
     rwa[List.reverse_reverse] at this
   ·cases e
 ·cases e
theorem Au {f:List aa} {k:Int} {x:aa} (h:eW f k=x):em f k=decide (x.1=3):=by
 unfold eW at h
 unfold em
 rw[h]
theorem qe {x y:aa} (h1:x.1=y.1) (h2:x.2.1=y.2.1) (h3:x.2.2.1=y.2.2.1) (h4:x.2.2.2.1=y.2.2.2.1) (h5:x.2.2.2.2.1=y.2.2.2.2.1) (h6:x.2.2.2.2.2.1=y.2.2.2.2.2.1):x=y :=
 Prod.ext h1 (Prod.ext h2 (Prod.ext h3 (Prod.ext h4 (Prod.ext h5 (Prod.ext h6 rfl)))))
theorem TC {x:aa} (h:kl x=0):x.2.2.2.2.2.1=[]:=by
 unfold kl at h
 exact List.eq_nil_of_length_eq_zero (by omega)
theorem Uo {x:aa} (h:kl x=1) : ∃ a,x.2.2.2.2.2.1=[a]:=by
 unfold kl at h
 exact List.length_eq_one_iff.1 (by omega)
theorem Uq {x:aa} (h:kl x=2) : ∃ a b,x.2.2.2.2.2.1=[a,b]:=by
 unfold kl at h
 match hx:x.2.2.2.2.2.1,h with
 | [a,b],_=>exact⟨a,b,rfl⟩
inductive NK:aa→Prop
 | con (v:ay) (h:aN v=true) (h0:v.1≠0) (h1:v.1=1→0≤v.2.1):NK (nC v)
 | cell (p:aB) (h:ar p.1=true):NK (nP p)
 | area (p q:aB) (h:cc (p.1,q.1,())=true):NK (nA p q)
 | neg (a:Int):NK (4,0,v0,p0,p0,[a],())
 | bin (op a b:Int) (h0:1≤op) (h1:op≤11):NK (5,op,v0,p0,p0,[a,b],())
 | call (op:Int) (ks:List Int) (h:jO op (ks.length:Int)=true):NK (6,op,v0,p0,p0,ks,())
theorem sj {x:aa} (h:bG x=true):NK x:=by
 unfold bG at h
 by_cases c1:x.1=1
 ·rw[if_pos c1] at h
  simp only[Bool.and_eq_true,Bool.or_eq_true,decide_eq_true_eq,Bool.not_eq_true',decide_eq_false_iff_not] at h
  obtain⟨⟨⟨⟨⟨⟨a1,a2⟩,a3⟩,a4⟩,a5⟩,a6⟩,a7⟩:=h
  have e:x=nC x.2.2.1:=qe c1 a1 rfl a2 a3 (TC a4)
  rw[e]
  exact .con _ a5 a6 (fun k=>a7.elim (fun n=>absurd k n) id)
 ·rw[if_neg c1] at h
  by_cases c2:x.1=2
  ·rw[if_pos c2] at h
   simp only[Bool.and_eq_true,decide_eq_true_eq] at h
   obtain⟨⟨⟨⟨a1,a2⟩,a3⟩,a4⟩,a5⟩:=h
   have e:x=nP x.2.2.2.1:=qe c2 a1 a2 rfl a3 (TC a4)
   rw[e]
   exact .cell _ a5
  ·rw[if_neg c2] at h
   by_cases c3:x.1=3
   ·rw[if_pos c3] at h
    simp only[Bool.and_eq_true,decide_eq_true_eq] at h
    obtain⟨⟨⟨a1,a2⟩,a4⟩,a5⟩:=h
    have e:x=nA x.2.2.2.1 x.2.2.2.2.1:=qe c3 a1 a2 rfl rfl (TC a4)
    rw[e]
    exact .area _ _ a5
   ·rw[if_neg c3] at h
    by_cases c4:x.1=4
    ·rw[if_pos c4] at h
     simp only[Bool.and_eq_true,decide_eq_true_eq] at h
     obtain⟨⟨⟨⟨a1,a2⟩,a3⟩,a4⟩,a5⟩:=h
     obtain⟨a,ha⟩:=Uo a5
     have e:x=(4,0,v0,p0,p0,[a],()):=qe c4 a1 a2 a3 a4 ha
     rw[e]
     exact .neg a
    ·rw[if_neg c4] at h
     by_cases c5:x.1=5
     ·rw[if_pos c5] at h
      simp only[Bool.and_eq_true,decide_eq_true_eq] at h
      obtain⟨⟨⟨⟨a1,a2⟩,a3⟩,a4⟩,a5⟩:=h
      obtain⟨a,b,ha⟩:=Uq a5
      obtain⟨g0,g1⟩:=bc.1 a1
      have e:x=(5,x.2.1,v0,p0,p0,[a,b],()):=qe c5 rfl a2 a3 a4 ha
      rw[e]
      exact .bin _ a b g0 g1
     ·rw[if_neg c5] at h
      by_cases c6:x.1=6
      ·rw[if_pos c6] at h
       simp only[Bool.and_eq_true,decide_eq_true_eq] at h
       obtain⟨⟨⟨a1,a2⟩,a3⟩,a4⟩:=h
       have e:x=(6,x.2.1,v0,p0,p0,x.2.2.2.2.2.1,()):=qe c6 rfl a2 a3 a4 rfl
       rw[e]
       exact .call _ _ a1
      ·rw[if_neg c6] at h
       cases h
end Go.Proofs.YtddiiceaindlhaaGreatDoor.Abs
set_option linter.unusedVariables false
set_option linter.unusedSimpArgs false
set_option linter.unusedSectionVars false
namespace Go.Proofs.YtddiiceaindlhaaGreatDoor.Abs
open Go
theorem TD {deep:Int} {l:ae} {ns:List aa} (h0:0≤deep) (h1:deep+(l.length:Int)≤400) (h:(bl l).head? = some 45) :
  et deep (ba l) false ns=(et (deep+1) (ba ((bl l).drop 1)) false ns).bind fun z=>az (NI z.1.1) z.2.1.1 z.2.1.2.2.1 z.2.1.2.1:=by
 rw[jw,av (by omega)]
 simp only[Bool.false_eq_true,if_false,fM]
 rw[show(⟨#[45]⟩:ByteArray)=ba [45] from rfl,cw (by omega)]
 simp only[Option.bind_some,gp (c:=45) (.inl rfl),List.length_singleton]
 simp only[h,decide_true,if_true]
 rw[wr (by omega) (by omega)]
theorem sC {deep:Int} {l:ae} {ns:List aa} (h0:0≤deep) (h1:deep+(l.length:Int)≤400) (h:(bl l).head? ≠ some 45) :
  et deep (ba l) false ns=eU deep (ba (bl l)) false ns:=by
 rw[jw,av (by omega)]
 simp only[Bool.false_eq_true,if_false,fM]
 rw[show(⟨#[45]⟩:ByteArray)=ba [45] from rfl,cw (by omega)]
 simp only[Option.bind_some,gp (c:=45) (.inl rfl),List.length_singleton]
 simp only[h,decide_false,Bool.false_eq_true,if_false]
theorem BA {least deep left:Int} {r:ae} {ns:List aa} (hl:r.length≤400) (h:yW r=true) (ho:dH r=0∨cd (dH r) < least):ci least deep left (ba r) false ns=some ((left,()),((ba r,ns,false,()),())):=by
 rw[eV]
 simp only[Bool.not_false,if_true]
 obtain⟨o1,o2⟩:=ld (bl r)
 rw[tN (by omega),xb o1 o2 (by rw[NS h]; omega) (fun h=>by rw[df]; exact pZ h),NS h,if_pos ho]
theorem T6 {least deep left op:Int} {t:ae} {ns:List aa} (h0:1≤op) (h1:op≤11) (ht:Hy t=true) (hl:t.length≤390) (hv:least≤cd op) :
  ci least deep left (ba (c7 op++t)) false ns=(bg (cd op+1) deep (ba t) false ns).bind fun z7=>((az (5,op,(0,0,(⟨#[]⟩:ByteArray),()),((0,0,()),false,false,()),((0,0,()),false,false,()),([left,z7.1.1]:(List Int)),()) z7.2.1.1 z7.2.1.2.2.1 z7.2.1.2.1).bind fun z8=>(ci least deep z8.1.1 z8.2.1.1 z8.2.1.2.2.1 z8.2.1.2.1)):=by
 have hs:=NU h0 h1 t
 have hb:=NS hs
 have ho:=PT h0 h1 ht
 have hln:=Bq op
 have hll:(c7 op++t).length≤400:=by rw[List.length_append]; omega
 rw[eV]
 simp only[Bool.not_false,if_true]
 obtain⟨o1,o2⟩:=ld (bl (c7 op++t))
 rw[tN (by omega),xb o1 o2 (by rw[hb]; omega) (fun h=>by rw[df]; exact pZ h),df,hb,ho,if_neg (by omega),List.drop_left' rfl]
theorem TE {deep:Int} {m:ae} {ns:List aa} (hl:m.length≤400):eU deep (ba (40 :: m)) false ns=((bg 1 (IntKind.i64.wrap (deep+1)) (ba m) false ns).bind fun z6=>(if z6.2.1.2.2.1=true then(some ((z6.1.1,()),((z6.2.1.1,z6.2.1.2.1,true,()),()))) else((aZ (⟨#[41]⟩:ByteArray) z6.2.1.1 z6.2.1.2.2.1 z6.2.1.2.1).bind fun z7=>(some ((z6.1.1,()),((z7.2.1.1,z7.2.1.2.1,(!z7.1.1),()),())))))):=by
 have hb:bl (40 :: m)=40 :: m:=List.dropWhile_cons_of_neg (by decide)
 rw[p5 (by rw[List.length_cons]; omega),hb,if_neg (by simp),if_neg (by simp),if_pos (by simp)]
 rfl
theorem Mm {r:ae} {ns:List aa} (hl:r.length≤400):aZ (⟨#[41]⟩:ByteArray) (ba (41 :: r)) false ns=some ((true,()),((ba r,ns,false,()),())):=by
 have hb:bl (41 :: r)=41 :: r:=List.dropWhile_cons_of_neg (by decide)
 have hs:sg (41 :: r)=[41]:=by rw[gp (c:=41) (.inr (.inr (.inl rfl)))]; rfl
 rw[show(⟨#[41]⟩:ByteArray)=ba [41] from rfl,cw (by rw[List.length_cons]; omega),hb,hs]
 rfl
theorem SF {r:ae} {ns:List aa} (hl:r.length≤400):aZ (⟨#[44]⟩:ByteArray) (ba (44 :: r)) false ns=some ((true,()),((ba r,ns,false,()),())):=by
 have hb:bl (44 :: r)=44 :: r:=List.dropWhile_cons_of_neg (by decide)
 have hs:sg (44 :: r)=[44]:=by rw[gp (c:=44) (.inr (.inr (.inr (.inl rfl))))]; rfl
 rw[show(⟨#[44]⟩:ByteArray)=ba [44] from rfl,cw (by rw[List.length_cons]; omega),hb,hs]
 rfl
theorem Rn {r:ae} {ns:List aa} (hl:r.length≤400):aZ (⟨#[44]⟩:ByteArray) (ba (41 :: r)) false ns=some ((false,()),((ba (41 :: r),ns,false,()),())):=by
 have hb:bl (41 :: r)=41 :: r:=List.dropWhile_cons_of_neg (by decide)
 have hs : ¬sg (41 :: r)=[44]:=by rw[gp (c:=44) (.inr (.inr (.inr (.inl rfl))))]; simp
 rw[show(⟨#[44]⟩:ByteArray)=ba [44] from rfl,cw (by rw[List.length_cons]; omega),hb,if_neg hs]
 simp[hs]
theorem NW : ∀(x r:ae),r.head? ≠ some 34→qt (qT x++34 :: r)=some (x,r)
 | [],r,h=>by
  cases r with
  | nil=>exact EO
  | cons d r =>
   have hd:d≠34:=fun e=>h (by rw[e]; rfl)
   exact Br hd
 | c :: x,r,h=>by
  unfold qT
  by_cases hc:c=34
  ·subst hc
   rw[if_pos rfl]
   show qt (34 :: 34 :: (qT x++34 :: r))=_
   rw[EP,NW x r h]
   rfl
  ·rw[if_neg hc]
   show qt (c :: (qT x++34 :: r))=_
   rw[yj hc,NW x r h]
   rfl
theorem PX {deep:Int} {x r:ae} {ns:List aa} (hl:(qT x).length+r.length≤390) (hr:r.head? ≠ some 34):eU deep (ba (34 :: (qT x++34 :: r))) false ns=az (nC (2,0,ba x,())) (ba r) false ns:=by
 have hb:bl (34 :: (qT x++34 :: r))=34 :: (qT x++34 :: r):=List.dropWhile_cons_of_neg (by decide)
 have hll:(qT x++34 :: r).length≤400:=by simp only[List.length_append,List.length_cons]; omega
 rw[p5 (by rw[List.length_cons]; omega),hb,if_pos (by simp),yk (by omega),NW x r hr]
 show bA (2,0,ba ([]++x),()) (ba r) false ns=_
 rw[io]
 rfl
theorem Av {deep:Int} {w r:ae} {ns:List aa} (hl:w.length+r.length≤390) (hw:w.all aE=true) (hne:w≠[]) (hr:r.takeWhile aE=[]∧r.dropWhile aE=r):eU deep (ba (w++r)) false ns=eB deep w r false ns:=by
 obtain⟨c,t,rfl⟩ : ∃ c t,w=c :: t:=by
  cases w with
  | nil=>exact absurd rfl hne
  | cons c t=>exact⟨c,t,rfl⟩
 have hc:aE c=true:=by simp only[List.all_cons,Bool.and_eq_true] at hw; exact hw.1
 have hn:c≠32∧c≠34∧c≠35∧c≠40∧Ai c=false:=o7 (p:=fun c=>aE c=true→c≠32∧c≠34∧c≠35∧c≠40∧Ai c=false) (by decide +kernel) c hc
 have hb:bl (c :: t++r)=c :: t++r:=List.dropWhile_cons_of_neg (by rw[hn.2.2.2.2]; decide)
 obtain⟨h1,h2⟩:=uX hw hr
 rw[p5 (by rw[List.length_append]; omega),hb,h1,h2,if_neg (by simp[hn.2.1]),if_neg (by simp[hn.2.2.1]),if_neg (by simp[hn.2.2.2.1])]
theorem Mn (u:Nat):(Lib.decDigits u).all aE=true:=PU (Bn (pW u))
theorem BB {v:ay} (h:aN v=true) (h0:v.1≠0) (h1:v.1=1→0≤v.2.1) (h2:v.1≠2):(∃ n:Fin 6,v=vE (n.val:Int)∧1≤n.val)∨((lb (cE v)).all aE=true∧lb (cE v)≠[]∧(v.1=1∨v.1=3)):=by
 rcases qy h with e | ⟨n,e,_⟩ | ⟨t,e⟩ | ⟨b,e⟩ | ⟨n,e,k⟩
 ·rw[e] at h0
  exact absurd rfl h0
 ·right
  subst e
  have hn:0≤n:=h1 rfl
  obtain⟨u,rfl⟩:=Int.eq_ofNat_of_zero_le hn
  have e:lb (cE (vN ((u:Nat):Int)))=Lib.decDigits u:=by
   show lb (de ((u:Nat):Int))=_
   rw[lc,dk]
  rw[e]
  exact⟨Mn u,wX.1,.inl rfl⟩
 ·rw[e] at h2
  exact absurd rfl h2
 ·right
  subst e
  cases b
  ·exact⟨by decide +kernel,by decide +kernel,.inr rfl⟩
  ·exact⟨by decide +kernel,by decide +kernel,.inr rfl⟩
 ·exact .inl ⟨n,e,k⟩
theorem Ro : ∀(n:Fin 6),1≤n.val → ∀ r:ae,pb.find? (fZ (c8 (n.val:Int)++r))=some (n.val:Int):=by
 intro n hn r
 have e1:c8 1=[68,73,86,33]∧c8 2=[84,89,80,69,33]∧c8 3=[82,69,70,33]:=by decide +kernel
 have hd : ∀ n m:Fin 6,1≤n.val→1≤m.val→m.val < n.val → ∃ i:Fin 10,(c8 (n.val:Int))[i.val]? ≠ (c8 (m.val:Int))[i.val]? ∧ i.val < (c8 (n.val:Int)).length∧i.val < (c8 (m.val:Int)).length:=by decide +kernel
 have no : ∀ m:Fin 6,1≤m.val→m.val < n.val→fZ (c8 (n.val:Int)++r) (m.val:Int)=false:=by
  intro m h1 h2
  obtain⟨i,h3,h4,h5⟩:=hd n m hn h1 h2
  rw[Bool.eq_false_iff]
  intro hp
  unfold fZ at hp
  obtain⟨t,ht⟩:=List.isPrefixOf_iff_prefix.1 hp
  have:=congrArg (fun l:ae=>l[i.val]?) ht
  simp only[List.getElem?_append_left h5,List.getElem?_append_left h4] at this
  exact h3 this.symm
 have yes:fZ (c8 (n.val:Int)++r) (n.val:Int)=true:=by
  unfold fZ
  rw[List.isPrefixOf_iff_prefix]
  exact⟨r,rfl⟩
 have hc:n.val=1∨n.val=2∨n.val=3∨n.val=4∨n.val=5:=by omega
 have nm : ∀ m:Nat,(h:m < 6)→1≤m→m < n.val→fZ (c8 (n.val:Int)++r) (m:Int)=false:=fun m h h1 h2=>no ⟨m,h⟩ h1 h2
 rcases hc with h | h | h | h | h
 ·rw[h] at nm yes ⊢
  simp only[pb,List.find?_cons]
  rw[show fZ (c8 ((1:Nat):Int)++r) 1=true from yes]
  rfl
 ·rw[h] at nm yes ⊢
  simp only[pb,List.find?_cons]
  rw[show fZ (c8 ((2:Nat):Int)++r) 1=false from nm 1 (by decide) (by decide) (by decide),show fZ (c8 ((2:Nat):Int)++r) 2=true from yes]
  rfl
 ·rw[h] at nm yes ⊢
  simp only[pb,List.find?_cons]
  rw[show fZ (c8 ((3:Nat):Int)++r) 1=false from nm 1 (by decide) (by decide) (by decide),show fZ (c8 ((3:Nat):Int)++r) 2=false from nm 2 (by decide) (by decide) (by decide),show fZ (c8 ((3:Nat):Int)++r) 3=true from yes]
  rfl
 ·rw[h] at nm yes ⊢
  simp only[pb,List.find?_cons]
  rw[show fZ (c8 ((4:Nat):Int)++r) 1=false from nm 1 (by decide) (by decide) (by decide),show fZ (c8 ((4:Nat):Int)++r) 2=false from nm 2 (by decide) (by decide) (by decide),show fZ (c8 ((4:Nat):Int)++r) 3=false from nm 3 (by decide) (by decide) (by decide),show fZ (c8 ((4:Nat):Int)++r) 4=true from yes]
  rfl
 ·rw[h] at nm yes ⊢
  simp only[pb,List.find?_cons]
  rw[show fZ (c8 ((5:Nat):Int)++r) 1=false from nm 1 (by decide) (by decide) (by decide),show fZ (c8 ((5:Nat):Int)++r) 2=false from nm 2 (by decide) (by decide) (by decide),show fZ (c8 ((5:Nat):Int)++r) 3=false from nm 3 (by decide) (by decide) (by decide),
   show fZ (c8 ((5:Nat):Int)++r) 4=false from nm 4 (by decide) (by decide) (by decide),show fZ (c8 ((5:Nat):Int)++r) 5=true from yes]
  rfl
theorem Rp {deep:Int} {n:Fin 6} (hn:1≤n.val) {r:ae} {ns:List aa} (hl:r.length≤390):eU deep (ba (lb (cT (n.val:Int))++r)) false ns=az (nC (vE (n.val:Int))) (ba r) false ns:=by
 have f : ∀ n:Fin 6,1≤n.val→cT (n.val:Int)=ba (35 :: c8 (n.val:Int))∧(c8 (n.val:Int)).length≤10:=by decide +kernel
 obtain⟨f1,f2⟩:=f n hn
 rw[f1,dk,List.cons_append]
 have hb:bl (35 :: (c8 (n.val:Int)++r))=35 :: (c8 (n.val:Int)++r):=List.dropWhile_cons_of_neg (by decide)
 have hll:(c8 (n.val:Int)++r).length≤400:=by rw[List.length_append]; omega
 rw[p5 (by rw[List.length_cons]; omega),hb,if_neg (by simp),if_pos (by simp),F7 (by omega),Ro n hn r]
 simp only
 rw[io,List.drop_left' rfl]
theorem E1 {op:Int} (h0:1≤op) (h1:op≤10):(dj op).all aE=true∧dj op≠[]∧(bq (dj op)).2=false∧(co (dj op)).2=false∧lf.find? (fun k=>decide (dj k=dj op))=some op:=by
 have : ∀ k:Fin 11,1≤k.val→(dj (k.val:Int)).all aE=true∧dj (k.val:Int)≠[]∧(bq (dj (k.val:Int))).2=false∧(co (dj (k.val:Int))).2=false∧lf.find? (fun j=>decide (dj j=dj (k.val:Int)))=some (k.val:Int):=by decide +kernel
 have h:=this ⟨op.toNat,by omega⟩ (by simp only; omega)
 simpa only[Int.toNat_of_nonneg (show 0≤op by omega)] using h
theorem BC {op k:Int} (h:jO op k=true):1≤op∧op≤10∧1≤k∧k≤10:=by
 unfold jO at h
 split at h
 ·simp only[Bool.or_eq_true,decide_eq_true_eq] at h
  omega
 ·split at h
  ·rename_i h1
   have:=bc.1 h1
   have:=bc.1 h
   omega
  ·split at h
   ·rename_i h1
    have:=bc.1 h1
    simp only[decide_eq_true_eq] at h
    omega
   ·cases h
end Go.Proofs.YtddiiceaindlhaaGreatDoor.Abs
set_option linter.unusedVariables false
set_option linter.unusedSimpArgs false
set_option linter.unusedSectionVars false
namespace Go.Proofs.YtddiiceaindlhaaGreatDoor.Abs
open Go
section
variable {f:List aa} {n:Nat} {k L:Int}
theorem BD {v:ay} (h:eW f k=nC v):bz f (n+1) k L=if v.1=2 then 34 :: (qT (lb v.2.2.1)++[34]) else lb (cE v):=by
 conv=>lhs; unfold bz
 rw[h]
 rfl
theorem yr {p:aB} (h:eW f k=nP p):bz f (n+1) k L=eO p:=by
 conv=>lhs; unfold bz
 rw[h]
 rfl
theorem Di {p q:aB} (h:eW f k=nA p q):bz f (n+1) k L=eO p++58 :: eO q:=by
 conv=>lhs; unfold bz
 rw[h]
 rfl
theorem BE {a:Int} (h:eW f k=(4,0,v0,p0,p0,[a],())):bz f (n+1) k L=45 :: bz f n a 5:=by
 conv=>lhs; unfold bz
 rw[h]
 rfl
def uY (f:List aa) (n:Nat) (op a b:Int):ae:=bz f n a (cd op)++(c7 op++bz f n b (cd op+1))
theorem xg {op a b:Int} (h:eW f k=(5,op,v0,p0,p0,[a,b],())):bz f (n+1) k L=if cd op < L then 40 :: (uY f n op a b++[41]) else uY f n op a b:=by
 conv=>lhs; unfold bz
 rw[h]
 rfl
theorem yt {op:Int} {ks:List Int} (h:eW f k=(6,op,v0,p0,p0,ks,())):bz f (n+1) k L=dj op++40 :: (bU (ks.map fun k=>bz f n k 1)++[41]):=by
 conv=>lhs; unfold bz
 rw[h]
 rfl
end
theorem E2 {w:ae} (hw:w.all aE=true) (hne:w≠[]):Hy w=true:=by
 cases w with
 | nil=>exact absurd rfl hne
 | cons c t =>
  simp only[List.all_cons,Bool.and_eq_true] at hw
  show PS c=true
  unfold PS
  rw[hw.1]
  rfl
theorem It {p:aB} (h:ar p.1=true):eO p≠[]:=by
 obtain⟨_,c,t,e,_⟩:=mX h
 rw[e]
 simp
theorem dE {p q:aB} (h:cc (p.1,q.1,())=true):ar p.1=true∧ar q.1=true:=by
 unfold cc at h
 simp only[Bool.and_eq_true] at h
 exact⟨h.1.1.1,h.1.1.2⟩
theorem Iu {f:List aa} : ∀(n:Nat) (k s:Int) (h:Nat),cQ f n k=some (s,h) → ∀ L,Hy (bz f n k L)=true
 | 0,k,s,h,e,L=>by cases e
 | n+1,k,s,h,e,L=>by
  obtain⟨h0,x,hx,hn,hok,hfw⟩:=qd e
  cases sj hok with
  | con v hv v0' v1 =>
   rw[BD hn]
   by_cases h2:v.1=2
   ·rw[if_pos h2]
    rfl
   ·rw[if_neg h2]
    rcases BB hv v0' v1 h2 with⟨m,rfl,hm⟩ | ⟨h3,h4,_⟩
    ·have : ∀ m:Fin 6,1≤m.val→Hy (lb (cE (vE (m.val:Int))))=true:=by decide +kernel
     exact this m hm
    ·exact E2 h3 h4
  | cell p hp =>
   rw[yr hn]
   exact E2 (mX hp).1 (It hp)
  | area p q hp =>
   rw[Di hn]
   exact qc (E2 (mX (dE hp).1).1 (It (dE hp).1)) _
  | neg a =>
   rw[BE hn]
   rfl
  | bin op a b h1 h2 =>
   rw[xg hn]
   split
   ·rfl
   ·obtain⟨⟨h',hc⟩,_⟩:=hfw
    exact qc (Iu n a s h' hc _) _
  | call op ks ha =>
   rw[yt hn]
   obtain⟨g1,g2,_⟩:=BC ha
   obtain⟨f1,f2,_⟩:=E1 g1 g2
   exact qc (E2 f1 f2) _
theorem T7 {m:ae} (h:m.head? ≠ some 32):bl m=m:=by
 cases m with
 | nil=>rfl
 | cons c t =>
  refine List.dropWhile_cons_of_neg ?_
  unfold Ai
  rw[decide_eq_true_eq]
  exact fun e=>h (by rw[e]; rfl)
theorem PY {f:List aa} : ∀(n:Nat) (k s:Int) (h:Nat),cQ f n k=some (s,h)→em f k=false → ∀ L r,yW r=true→((bz f n k L++r).dropWhile aE).head? ≠ some 58∧((bz f n k L++r).dropWhile aE).head? ≠ some 32
 | 0,k,s,h,e,_,L,r,hr=>by cases e
 | n+1,k,s,h,e,har,L,r,hr=>by
  obtain⟨h0,x,hx,hn,hok,hfw⟩:=qd e
  rw[Au hn] at har
  have hst:=RY hr
  cases sj hok with
  | con v hv v0' v1 =>
   rw[BD hn]
   by_cases h2:v.1=2
   ·rw[if_pos h2,List.cons_append,List.dropWhile_cons_of_neg (by decide)]
    exact⟨by simp,by simp⟩
   ·rw[if_neg h2]
    rcases BB hv v0' v1 h2 with⟨m,rfl,hm⟩ | ⟨h3,h4,_⟩
    ·have : ∀ m:Fin 6,1≤m.val→lb (cE (vE (m.val:Int)))=35 :: c8 (m.val:Int):=by decide +kernel
     rw[this m hm,List.cons_append,List.dropWhile_cons_of_neg (by decide)]
     exact⟨by simp,by simp⟩
    ·rw[(Dg h3 hr).2]
     exact⟨hst.2.1,hst.2.2⟩
  | cell p hp =>
   rw[yr hn,(Dg (mX hp).1 hr).2]
   exact⟨hst.2.1,hst.2.2⟩
  | area p q hp=>simp at har
  | neg a =>
   rw[BE hn,List.cons_append,List.dropWhile_cons_of_neg (by decide)]
   exact⟨by simp,by simp⟩
  | bin op a b h1 h2 =>
   rw[xg hn]
   split
   ·rw[List.cons_append,List.dropWhile_cons_of_neg (by decide)]
    exact⟨by simp,by simp⟩
   ·obtain⟨⟨h',hc⟩,ha,_⟩:=hfw
    unfold uY
    rw[List.append_assoc,List.append_assoc]
    refine PY n a s h' hc ?_ _ _ (NU h1 h2 _)
    rw[Bool.eq_false_iff]
    intro hh
    have:=ha hh
    simp at this
  | call op ks ha =>
   rw[yt hn]
   obtain⟨g1,g2,_⟩:=BC ha
   obtain⟨f1,f2,_⟩:=E1 g1 g2
   rw[List.append_assoc,(uX f1 (r:=40 :: (bU (ks.map fun k=>bz f n k 1)++[41])++r) ⟨rfl,rfl⟩).2]
   exact⟨by simp,by simp⟩
def Dj (x:aa) (L:Int):Bool:=decide (x.1=5) && !decide (cd x.2.1 < L)
def Ug (f:List aa) (n:Nat):Prop := ∀(k s:Int) (h:Nat),cQ f n k=some (s,h)→em f k=false → ∀(L:Int) (r:ae) (deep:Int),1≤L→L≤5→yW r=true→Dj (eW f k) L=false→0≤deep→deep+((bz f n k L++r).length:Int)≤380 →
 et deep (ba (bz f n k L++r)) false (f.take s.toNat)=some ((k,()),((ba r,f.take (k.toNat+1),false,()),()))
def TF (f:List aa) (n:Nat):Prop := ∀(k s:Int) (h:Nat),cQ f n k=some (s,h)→em f k=false → ∀(L:Int) (r:ae) (deep least:Int),1≤L→L≤5→yW r=true→(dH r=0∨cd (dH r)≤L)→1≤least→least≤L→0≤deep→deep+((bz f n k L++r).length:Int)≤380 →
 bg least deep (ba (bz f n k L++r)) false (f.take s.toNat)=ci least deep k (ba r) false (f.take (k.toNat+1))
theorem SG {op deep:Int} {m:ae} {ns:List aa} (hl:m.length≤390):fG op deep (ba (40 :: m)) false ns=bK op deep (ba m) false [] ns:=by
 have hb:bl (40 :: m)=40 :: m:=List.dropWhile_cons_of_neg (by decide)
 have hs:sg (40 :: m)=[40]:=by rw[gp (c:=40) (.inr (.inl rfl))]; rfl
 rw[oY,if_neg (by decide),show(⟨#[40]⟩:ByteArray)=ba [40] from rfl,cw (by rw[List.length_cons]; omega),hb,hs]
 simp
section
variable {f:List aa} (hf:f.length≤60)
include hf
theorem Mo {n:Nat} (HB:TF f n) {op deep:Int} (hd0:0≤deep) {r:ae} : ∀(ys pre:List Int) (s0 e:Int),ys≠[]→0≤s0→E0 f n true ys s0 e→pre.length+ys.length≤100→deep+1+((bU (ys.map fun y=>bz f n y 1)++41 :: r).length:Int)≤380 →
  bK op deep (ba (bU (ys.map fun y=>bz f n y 1)++41 :: r)) false pre (f.take s0.toNat)=az (6,op,(0,0,(⟨#[]⟩:ByteArray),()),((0,0,()),false,false,()),((0,0,()),false,false,()),pre++ys,()) (ba r) false (f.take e.toNat)
 | [],_,_,_,h,_,_,_,_=>absurd rfl h
 | y :: ys,pre,s0,e,_,hs0,hfw,hpl,hlen=>by
  obtain⟨⟨h',hc⟩,_,hfw'⟩:=hfw
  obtain⟨m,rfl⟩ : ∃ m,n=m+1:=by
   cases n with
   | zero=>cases hc
   | succ m=>exact⟨m,rfl⟩
  obtain⟨hy0,x,hx,hn,hok,hkids⟩:=qd hc
  obtain⟨tl,htl,htx⟩ : ∃ tl:ae,(tl=41 :: r∧ys=[]∨tl=44 :: (bU (ys.map fun y=>bz f (m+1) y 1)++41 :: r)∧ys≠[])∧bU ((y :: ys).map fun y=>bz f (m+1) y 1)++41 :: r=bz f (m+1) y 1++tl:=by
   cases ys with
   | nil=>exact⟨_,.inl ⟨rfl,rfl⟩,rfl⟩
   | cons z zs=>exact⟨_,.inr ⟨rfl,by simp⟩,by simp[bU]⟩
  rw[htx] at hlen ⊢
  have hst:yW tl=true∧dH tl=0:=by
   rcases htl with⟨h,_⟩ | ⟨h,_⟩
   ·exact Ir (.inr (.inl (by rw[h]; rfl)))
   ·exact Ir (.inr (.inr (by rw[h]; rfl)))
  have hhd:=qc (Iu (m+1) y s0 h' hc 1) tl
  have hbl:=NV hhd
  have htll:(tl.length:Int)≤380:=by
   rw[List.length_append] at hlen
   omega
  have hrl:(r.length:Int)+1≤380:=by
   rcases htl with⟨h,_⟩ | ⟨h,_⟩
   ·rw[h,List.length_cons] at htll
    omega
   ·rw[h,List.length_cons,List.length_append,List.length_cons] at htll
    omega
  have aL:((aZ (⟨#[44]⟩:ByteArray) (ba tl) false (f.take (y.toNat+1))).bind fun z3=>(if(!z3.1.1)=true then(if z3.2.1.2.2.1=true then((az (6,op,(0,0,(⟨#[]⟩:ByteArray),()),((0,0,()),false,false,()),((0,0,()),false,false,()),pre++[y],()) z3.2.1.1 true z3.2.1.2.1).bind fun z4=>(some ((z4.1.1,()),(z4.2.1,())))) else((aZ (⟨#[41]⟩:ByteArray) z3.2.1.1 z3.2.1.2.2.1 z3.2.1.2.1).bind fun z5=>((az (6,op,(0,0,(⟨#[]⟩:ByteArray),()),((0,0,()),false,false,()),((0,0,()),false,false,()),pre++[y],()) z5.2.1.1 (!z5.1.1) z5.2.1.2.1).bind fun z6=>(some ((z6.1.1,()),(z6.2.1,())))))) else(bK op deep z3.2.1.1 z3.2.1.2.2.1 (pre++[y]) z3.2.1.2.1)))
    = az (6,op,(0,0,(⟨#[]⟩:ByteArray),()),((0,0,()),false,false,()),((0,0,()),false,false,()),pre++y :: ys,()) (ba r) false (f.take e.toNat):=by
   rcases htl with⟨h,h2⟩ | ⟨h,h2⟩
   ·subst h2
    have he:y+1=e:=hfw'
    rw[h,Rn (by omega)]
    simp only[Option.bind_some,Bool.not_false,if_true,Bool.false_eq_true,if_false]
    rw[Mm (by omega)]
    simp only[Option.bind_some,Bool.not_true,fM]
    congr 2
    omega
   ·have ih:=Mo HB (op:=op) hd0 (r:=r) ys (pre++[y]) (y+1) e h2 (by omega) hfw' (by simp only[List.length_append,List.length_cons,List.length_nil] at hpl ⊢; omega) (by
     rw[List.length_append,h,List.length_cons] at hlen
     omega)
    have hcl:((bU (ys.map fun y=>bz f (m+1) y 1)++41 :: r).length:Int)≤380:=by
     rw[h,List.length_cons] at htll
     omega
    rw[h,SF (by omega)]
    simp only[Option.bind_some,Bool.not_true,Bool.false_eq_true,if_false]
    have e1:(y+1).toNat=y.toNat+1:=by omega
    rw[e1] at ih
    rw[ih]
    simp
  rw[gZ]
  simp only[Bool.not_false,if_true]
  rw[C4 (by omega),hbl]
  by_cases har:em f y=true
  ·
   rw[Au hn,decide_eq_true_eq] at har
   cases sj hok with
   | con v _ _ _=>simp at har
   | cell p _=>simp at har
   | neg a=>simp at har
   | bin op a b _ _=>simp at har
   | call op ks _=>simp at har
   | area p q hp =>
    obtain⟨r1,r2⟩:=dE hp
    have hs:s0=y:=hkids
    rw[Di hn,List.append_assoc,List.cons_append]
    obtain⟨w1,w2⟩:=uX (mX r1).1 (r:=58 :: (eO q++tl)) ⟨rfl,rfl⟩
    obtain⟨w3,w4⟩:=Dg (mX r2).1 hst.1
    have hb2:bl (58 :: (eO q++tl))=58 :: (eO q++tl):=List.dropWhile_cons_of_neg (by decide)
    have har:iC (eO p++58 :: (eO q++tl))=eO q++tl:=by
     unfold iC
     rw[w2,hb2]
     exact NV (qc (E2 (mX r2).1 (It r2)) tl)
    have hab:yT (eO p++58 :: (eO q++tl))=true:=by
     unfold yT
     rw[w1,w2,nG r1,hb2]
     rfl
    rw[if_pos hab,har,w1,w3,w4,nG r1,nG r2]
    simp only[Option.bind_some,if_true,Bool.not_true,Bool.or_false]
    rw[hs,Ar hf hx]
    simp only[Option.bind_some]
    rw[bo (by simp only[List.length_singleton]; simp only[List.length_cons] at hpl; omega),Int.toNat_of_nonneg hy0]
    exact aL
  ·
   have har':em f y=false:=by simpa using har
   obtain⟨c1,c2⟩:=PY (m+1) y s0 h' hc har' 1 tl hst.1
   have hab : ¬yT (bz f (m+1) y 1++tl)=true:=by
    unfold yT
    rw[T7 c2]
    simp[c1]
   rw[if_neg hab]
   simp only[Option.bind_some,Bool.false_eq_true,if_false]
   rw[wr (by omega) (by omega),HB y s0 h' hc har' 1 tl (deep+1) 1 (by decide) (by decide) hst.1 (.inl hst.2) (by decide) (by decide) (by omega) (by omega),BA (by omega) hst.1 (.inl hst.2)]
   simp only[Option.bind_some]
   rw[bo (by simp only[List.length_singleton]; simp only[List.length_cons] at hpl; omega)]
   exact aL
theorem Mp {n:Nat} (HB:TF f n) {k s op a b:Int} (hk0:0≤k) (hx:f[k.toNat]? = some (5,op,v0,p0,p0,[a,b],())) (h1:1≤op) (h2:op≤11) (hfw:E0 f n false [a,b] s k) {r:ae} {deep least:Int} (hr:yW r=true) (ho:dH r=0∨cd (dH r)≤cd op) (hl1:1≤least) (hl2:least≤cd op) (hd0:0≤deep) (hd:deep+((uY f n op a b++r).length:Int)≤380) :
  bg least deep (ba (uY f n op a b++r)) false (f.take s.toNat)=ci least deep k (ba r) false (f.take (k.toNat+1)):=by
 obtain⟨⟨ha,hca⟩,haa,⟨hb,hcb⟩,hab,hbk⟩:=hfw
 have hbk:b+1=k:=hbk
 have naa:em f a=false:=by
  rw[Bool.eq_false_iff]
  intro h
  have:=haa h
  cases this
 have nab:em f b=false:=by
  rw[Bool.eq_false_iff]
  intro h
  have:=hab h
  cases this
 obtain⟨v1,v2⟩:=Dh op
 have hhd:=Iu n b (a+1) hb hcb (cd op+1)
 have hhd2:=qc hhd r
 unfold uY at hd ⊢
 rw[List.append_assoc,List.append_assoc] at hd ⊢
 have ha0:0≤a:=by
  have:=fd f n a s ha hca
  omega
 have hb0:0≤b:=by
  have:=fd f n b (a+1) hb hcb
  omega
 rw[List.length_append,List.length_append] at hd
 rw[HB a s ha hca naa (cd op) _ deep least v1 (by omega) (NU h1 h2 _) (.inr (by rw[PT h1 h2 hhd2]; omega)) hl1 hl2 hd0 (by rw[List.length_append,List.length_append]; omega),T6 h1 h2 hhd2 (by omega) hl2]
 have ea:(a+1).toNat=a.toNat+1:=by omega
 have:=HB b (a+1) hb hcb nab (cd op+1) r deep (cd op+1) (by omega) (by omega) hr (ho.imp id fun h=>by omega) (by omega) (by omega) hd0 (by omega)
 rw[ea] at this
 rw[this,BA (by rw[List.length_append] at hd; omega) hr (ho.imp id fun h=>by omega)]
 simp only[Option.bind_some]
 have eb:b.toNat+1=k.toNat:=by omega
 have hp:az (5,op,(0,0,(⟨#[]⟩:ByteArray),()),((0,0,()),false,false,()),((0,0,()),false,false,()),[a,b],()) (ba r) false (f.take k.toNat)=_:=Ar hf hx r
 rw[eb,hp]
 simp only[Option.bind_some]
 rw[Int.toNat_of_nonneg hk0]
theorem PZ : ∀ n:Nat,Ug f n∧TF f n
 | 0=>⟨(fun k s h e=>by cases e),(fun k s h e=>by cases e)⟩
 | n+1=>by
  obtain⟨IU,IB⟩:=PZ n
  have U:Ug f (n+1):=by
   intro k s h e har L r deep hL1 hL2 hr hbin hd0 hd
   obtain⟨hk0,x,hx,hn,hok,hfw⟩:=qd e
   have hhd:=qc (Iu (n+1) k s h e L) r
   have hbl:=NV hhd
   rw[Au hn] at har
   rw[hn] at hbin
   have aL:s=k→az x (ba r) false (f.take s.toNat)=some ((k,()),((ba r,f.take (k.toNat+1),false,()),())):=by
    rintro rfl
    rw[Ar hf hx,Int.toNat_of_nonneg hk0]
   cases sj hok with
   | con v hv v0' v1 =>
    have hs:s=k:=hfw
    rw[BD hn] at hd hbl ⊢
    by_cases h2:v.1=2
    ·rw[if_pos h2] at hd hbl ⊢
     have hve:v=(2,0,ba (lb v.2.2.1),()):=by
      rw[fX]
      exact Prod.ext h2 (Prod.ext (Ma hv h2) rfl)
     rw[List.cons_append,List.append_assoc,List.singleton_append] at hd hbl ⊢
     simp only[List.length_cons,List.length_append] at hd
     rw[sC hd0 (by simp only[List.length_cons,List.length_append]; omega) (by rw[hbl]; simp),hbl,PX (by omega) (RY hr).1,←hve]
     exact aL hs
    ·rw[if_neg h2] at hd hbl ⊢
     rw[List.length_append] at hd
     rcases BB hv v0' v1 h2 with⟨m,rfl,hm⟩ | ⟨h3,h4,h5⟩
     ·have e1:cE (vE (m.val:Int))=cT (m.val:Int):=rfl
      rw[e1] at hd hbl ⊢
      have h45:(lb (cT (m.val:Int))++r).head? ≠ some 45:=by
       have : ∀ m:Fin 6,1≤m.val→lb (cT (m.val:Int))=35 :: c8 (m.val:Int):=by decide +kernel
       rw[this m hm]
       simp
      rw[sC hd0 (by rw[List.length_append]; omega) (by rw[hbl]; exact h45),hbl,Rp hm (by omega)]
      exact aL hs
     ·have h45:(lb (cE v)++r).head? ≠ some 45:=by
       cases hw:lb (cE v) with
       | nil=>exact absurd hw h4
       | cons c t =>
        rw[hw] at h3
        simp only[List.all_cons,Bool.and_eq_true] at h3
        have:aE c=true→c≠45:=o7 (p:=fun c=>aE c=true→c≠45) (by decide +kernel) c
        simpa using this h3.1
      rw[sC hd0 (by rw[List.length_append]; omega) (by rw[hbl]; exact h45),hbl,Av (by omega) h3 h4 (NT hr)]
      unfold eB
      rw[ye hv,if_pos ⟨rfl,h5⟩,io]
      exact aL hs
   | cell p hp =>
    have hs:s=k:=hfw
    rw[yr hn] at hd hbl ⊢
    rw[List.length_append] at hd
    obtain⟨w1,c,t,ec,hc⟩:=mX hp
    have h45:(eO p++r).head? ≠ some 45:=by
     rw[ec]
     simpa using (RZ c hc).2.2.1
    rw[sC hd0 (by rw[List.length_append]; omega) (by rw[hbl]; exact h45),hbl,Av (by omega) w1 (It hp) (NT hr)]
    unfold eB
    rw[if_neg (by rw[Rm hp]; exact fun h=>by cases h.1),nG hp,if_pos rfl]
    exact aL hs
   | area p q hp=>simp at har
   | neg a =>
    obtain⟨⟨ha,hca⟩,haa,hak⟩:=hfw
    have hak:a+1=k:=hak
    have naa:em f a=false:=by
     rw[Bool.eq_false_iff]
     intro h
     have:=haa h
     simp at this
    have ha0:0≤a:=by
     have:=fd f n a s ha hca
     omega
    rw[BE hn] at hd hbl ⊢
    rw[List.cons_append] at hd hbl ⊢
    rw[List.length_cons] at hd
    have nb:Dj (eW f a) 5=false:=by
     unfold Dj
     have:=Dh (eW f a).2.1
     rw[decide_eq_true (show cd (eW f a).2.1 < 5 by omega)]
     simp
    rw[TD hd0 (by rw[List.length_cons]; omega) (by rw[hbl]; rfl),hbl]
    simp only[List.drop_succ_cons,List.drop_zero]
    rw[IU a s ha hca naa 5 r (deep+1) (by decide) (by decide) hr nb (by omega) (by omega)]
    simp only[Option.bind_some]
    have ea:a.toNat+1=k.toNat:=by omega
    rw[ea]
    refine(Ar hf hx r).trans ?_
    rw[Int.toNat_of_nonneg hk0]
   | bin op a b h1 h2 =>
    have hlt:cd op < L:=by
     unfold Dj at hbin
     simpa using hbin
    rw[xg hn,if_pos hlt] at hd hbl ⊢
    rw[List.cons_append,List.append_assoc,List.singleton_append] at hd hbl ⊢
    rw[List.length_cons] at hd
    have hll:=hd
    rw[List.length_append,List.length_cons] at hll
    obtain⟨v1,v2⟩:=Dh op
    have h41:=Ir (r:=41 :: r) (.inr (.inl rfl))
    rw[sC hd0 (by rw[List.length_cons]; omega) (by rw[hbl]; simp),hbl,TE (by omega),wr (by omega) (by omega),Mp hf IB hk0 hx h1 h2 hfw h41.1 (.inl h41.2) (by decide) v1 (by omega) (by omega),BA (by rw[List.length_cons]; omega) h41.1 (.inl h41.2)]
    simp only[Option.bind_some,Bool.false_eq_true,if_false]
    rw[Mm (by omega)]
    rfl
   | call op ks ha =>
    obtain⟨g1,g2,g3,g4⟩:=BC ha
    obtain⟨f1,f2,f3,f4,f5⟩:=E1 g1 g2
    rw[yt hn] at hd hbl ⊢
    rw[List.append_assoc,List.cons_append,List.append_assoc,List.singleton_append] at hd hbl ⊢
    have h45:(dj op++40 :: (bU (ks.map fun k=>bz f n k 1)++41 :: r)).head? ≠ some 45:=by
     cases hw:dj op with
     | nil=>exact absurd hw f2
     | cons c t =>
      rw[hw] at f1
      simp only[List.all_cons,Bool.and_eq_true] at f1
      have:aE c=true→c≠45:=o7 (p:=fun c=>aE c=true→c≠45) (by decide +kernel) c
      simpa using this f1.1
    have hll:=hd
    rw[List.length_append,List.length_cons] at hll
    have hfl:1≤(dj op).length:=List.length_pos_iff.2 f2
    rw[sC hd0 (by omega) (by rw[hbl]; exact h45),hbl,Av (by rw[List.length_cons]; omega) f1 f2 ⟨rfl,rfl⟩]
    unfold eB
    rw[if_neg (by rw[f3]; exact fun h=>by cases h.1),if_neg (by rw[f4]; decide),f5]
    simp only
    have hs0:0≤s:=(fd f (n+1) k s h e).1
    have hkn:ks≠[]:=by
     rintro rfl
     simp at g3
    have hfw':E0 f n true ks s k:=by
     have:decide (((6,op,v0,p0,p0,ks,()):aa).1=6)=true:=rfl
     rw[this] at hfw
     exact hfw
    rw[SG (by omega),Mo hf IB hd0 ks [] s k hkn hs0 hfw' (by simp only[List.length_nil]; omega) (by omega),List.nil_append]
    refine(Ar hf hx r).trans ?_
    rw[Int.toNat_of_nonneg hk0]
  refine⟨U,?_⟩
  intro k s h e har L r deep least hL1 hL2 hr ho hl1 hl2 hd0 hd
  by_cases hb:Dj (eW f k) L=true
  ·obtain⟨hk0,x,hx,hn,hok,hfw⟩:=qd e
   rw[hn] at hb
   unfold Dj at hb
   rw[Bool.and_eq_true,decide_eq_true_eq,Bool.not_eq_true',decide_eq_false_iff_not] at hb
   cases sj hok with
   | con v _ _ _=>simp at hb
   | cell p _=>simp at hb
   | area p q _=>simp at hb
   | neg a=>simp at hb
   | call op ks _=>simp at hb
   | bin op a b h1 h2 =>
    have hge : ¬cd op < L:=hb.2
    rw[xg hn,if_neg hge] at hd ⊢
    exact Mp hf IB hk0 hx h1 h2 hfw hr (ho.imp id fun h=>by omega) hl1 (by omega) hd0 hd
  ·have hb':Dj (eW f k) L=false:=by simpa using hb
   rw[ma,U k s h e har L r deep hL1 hL2 hr hb' hd0 hd]
   rfl
end
def li (c:UInt8):Bool:=decide (32≤c.toNat) && decide (c.toNat≤126)
theorem yu {l:ae}:plain (ba l)=l.all li:=by
 unfold plain
 rw[Pn,List.all_map]
 congr 1
 funext c
 simp only[Function.comp,rA,li]
 rw[Bool.eq_iff_iff]
 simp only[decide_eq_true_eq,Bool.and_eq_true]
 omega
theorem BF {w:ae} (h:w.all aE=true):w.all li=true:=by
 rw[List.all_eq_true] at h ⊢
 intro c hc
 exact o7 (p:=fun c=>aE c=true→li c=true) (by decide +kernel) c (h c hc)
theorem NX : ∀ {l:ae},l.all li=true→(qT l).all li=true
 | [],_=>rfl
 | c :: l,h=>by
  simp only[List.all_cons,Bool.and_eq_true] at h
  unfold qT
  split
  ·simp only[List.all_cons,NX h.2,Bool.and_true]
   decide
  ·simp only[List.all_cons,h.1,NX h.2,Bool.and_true]
theorem Hz : ∀ {l:List ae},(∀ x∈l,x.all li=true)→(bU l).all li=true
 | [],_=>rfl
 | [x],h=>h x (by simp)
 | x :: y :: l,h=>by
  have ih:=Hz (l:=y :: l) fun z hz=>h z (List.mem_cons_of_mem _ hz)
  show(x++44 :: bU (y :: l)).all li=true
  rw[List.all_append,List.all_cons,h x (by simp),ih]
  decide
theorem TG {op:Int} (h0:1≤op) (h1:op≤11):(c7 op).all li=true:=by
 have : ∀ k:Fin 12,(c7 (k.val:Int)).all li=true:=by decide +kernel
 have h:=this ⟨op.toNat,by omega⟩
 simpa only[Int.toNat_of_nonneg (show 0≤op by omega)] using h
theorem xh {f:List aa} {n:Nat} {call:Bool} : ∀ {l:List Int} {s e:Int},E0 f n call l s e → ∀ y∈l,∃ s h,cQ f n y=some (s,h)
 | [],_,_,_,y,hy=>by cases hy
 | z :: l,s,e,h,y,hy=>by
  rcases List.mem_cons.1 hy with rfl | hy
  ·obtain⟨h',hc⟩:=h.1
   exact⟨s,h',hc⟩
  ·exact xh h.2.2 y hy
theorem BG {f:List aa} : ∀(n:Nat) (k s:Int) (h:Nat),cQ f n k=some (s,h) → ∀ L,(bz f n k L).all li=true
 | 0,k,s,h,e,L=>by cases e
 | n+1,k,s,h,e,L=>by
  obtain⟨h0,x,hx,hn,hok,hfw⟩:=qd e
  cases sj hok with
  | con v hv v0' v1 =>
   rw[BD hn]
   by_cases h2:v.1=2
   ·rw[if_pos h2,List.all_cons,List.all_append,NX]
    ·decide
    ·have hp:plain v.2.2.1=true:=by
      unfold aN at hv
      rw[if_pos h2] at hv
      simp only[Bool.and_eq_true] at hv
      exact hv.2.1
     rw[←fX v.2.2.1,yu] at hp
     exact hp
   ·rw[if_neg h2]
    rcases BB hv v0' v1 h2 with⟨m,rfl,hm⟩ | ⟨h3,h4,_⟩
    ·have : ∀ m:Fin 6,1≤m.val→(lb (cE (vE (m.val:Int)))).all li=true:=by decide +kernel
     exact this m hm
    ·exact BF h3
  | cell p hp =>
   rw[yr hn]
   exact BF (mX hp).1
  | area p q hp =>
   rw[Di hn,List.all_append,List.all_cons,BF (mX (dE hp).1).1,BF (mX (dE hp).2).1]
   decide
  | neg a =>
   obtain⟨s',h',hc⟩:=xh hfw a (by simp)
   rw[BE hn,List.all_cons,BG n a s' h' hc]
   decide
  | bin op a b h1 h2 =>
   obtain⟨s1,h1',c1⟩:=xh hfw a (by simp)
   obtain⟨s2,h2',c2⟩:=xh hfw b (by simp)
   have hb:(uY f n op a b).all li=true:=by
    unfold uY
    rw[List.all_append,List.all_append,BG n a s1 h1' c1,BG n b s2 h2' c2,TG h1 h2]
    rfl
   rw[xg hn]
   split
   ·rw[List.all_cons,List.all_append,hb]
    decide
   ·exact hb
  | call op ks ha =>
   obtain⟨g1,g2,_⟩:=BC ha
   obtain⟨f1,_⟩:=E1 g1 g2
   rw[yt hn,List.all_append,List.all_cons,List.all_append,BF f1,Hz]
   ·decide
   ·intro z hz
    obtain⟨y,hy,rfl⟩:=List.mem_map.1 hz
    obtain⟨s',h',hc⟩:=xh hfw y hy
    exact BG n y s' h' hc 1
def fT (f:List aa):ae:=bz f f.length ((f.length:Int) - 1) 1
theorem Mq {f:List aa} (h:fh f=true):f.length≤60∧1≤f.length∧em f ((f.length:Int) - 1)=false ∧ ∃ d,cQ f f.length ((f.length:Int) - 1)=some (0,d):=by
 unfold fh o5 at h
 rw[Bool.and_eq_true] at h
 obtain⟨h1,h2⟩:=h
 have h1:=bc.1 h1
 split at h2
 ·rename_i s d hc
  simp only[Bool.and_eq_true,decide_eq_true_eq,Bool.not_eq_true'] at h2
  rw[h2.1] at hc
  exact⟨by omega,by omega,h2.2.1,d,hc⟩
 ·cases h2
theorem P0 {f:List aa} (h:fh f=true) (hl:(fT f).length≤200):iW (ba (fT f))=some ((f,true,()),()):=by
 obtain⟨h60,h1,har,d,hc⟩:=Mq h
 have hp:plain (ba (fT f))=true:=by
  rw[yu]
  exact BG _ _ _ _ hc 1
 have hst:=Ir (r:=[]) (.inl rfl)
 have hB:=(PZ h60 f.length).2 _ 0 d hc har 1 [] 0 1 (by decide) (by decide) hst.1 (.inl hst.2) (by decide) (by decide) (by decide) (by rw[List.append_nil]; show(0:Int)+((fT f).length:Int)≤380; omega)
 rw[List.append_nil] at hB
 have hB:bg 1 0 (ba (fT f)) false []=_:=hB
 rw[BA (by simp) hst.1 (.inl hst.2)] at hB
 have ek:((f.length:Int) - 1).toNat+1=f.length:=by omega
 rw[ek,List.take_length] at hB
 have hs:=lV h
 have hn : ∀ x∈f,bG x=true:=by
  intro x hx
  obtain⟨i,hi⟩:=List.getElem?_of_mem hx
  exact(hs i x hi).1
 have hsm:sm f=true:=by
  unfold sm
  rw[List.all_eq_true]
  exact fun x hx=>Hs (hn x hx)
 rw[uI,sd (by rw[aq]; omega),hp]
 have h200:decide (((ba (fT f)).size:Int)≤200)=true:=decide_eq_true (by rw[aq]; omega)
 rw[h200]
 simp only[Option.bind_some,Bool.and_self,Bool.not_true,Bool.false_eq_true,if_false]
 rw[hB]
 simp only[Option.bind_some]
 rw[lX]
 simp only[Option.bind_some,Bool.false_eq_true,if_false]
 have e0:(ByteArray.toList (ba (bl [])) == ByteArray.toList (⟨#[]⟩:ByteArray))=true:=by
  rw[show(⟨#[]⟩:ByteArray)=ba [] from rfl,cN]
  rfl
 rw[e0]
 simp only[Bool.not_true,Bool.false_eq_true,if_false]
 rw[jP (by omega) (F9 hsm) (Ga hsm),h]
 rfl
end Go.Proofs.YtddiiceaindlhaaGreatDoor.Abs
set_option linter.unusedVariables false
set_option linter.unusedSimpArgs false
set_option linter.unusedSectionVars false
namespace Go.Proofs.YtddiiceaindlhaaGreatDoor.Abs
open Go
noncomputable def gq (x:ByteArray):List aa×Bool:=if h:x.size≤9223372036854775807 then((Iq h).choose,(Iq h).choose_spec.choose) else([],false)
theorem ra {x:ByteArray} (h:x.size≤9223372036854775807):kO x=some (((gq x).1,(gq x).2,()),())∧iW x=some (((gq x).1,(gq x).2,()),())∧((gq x).2=true→fh (gq x).1=true)∧((gq x).2=false→(gq x).1=[]):=by
 unfold gq
 rw[dif_pos h]
 exact(Iq h).choose_spec.choose_spec
theorem Rq {f:List aa} (h:fh f=true) (hl:(fT f).length≤200):gq (ba (fT f))=(f,true):=by
 have h1:=(ra (x:=ba (fT f)) (by rw[aq]; omega)).2.1
 rw[P0 h hl] at h1
 have:=Option.some.inj h1
 have e1:(gq (ba (fT f))).1=f:=(congrArg (fun z=>z.1.1) this).symm
 have e2:(gq (ba (fT f))).2=true:=(congrArg (fun z=>z.1.2.1) this).symm
 exact Prod.ext e1 e2
def bL (f:List aa):ae:=if fh f=true∧(fT f).length≤200 then fT f else []
theorem Aw {f:List aa} (h:fh f=true):f.length≤60∧(∀ x∈f,x.2.2.1.2.2.1.size≤9223372036854775807) ∧ ∀ x∈f,x.2.2.2.2.2.1.length≤10000000:=by
 have hs:dl f=true:=by
  unfold dl
  rw[List.all_eq_true]
  intro y hy
  obtain⟨i,hi⟩:=List.getElem?_of_mem hy
  exact(lV h i y hi).1
 have ho':=h
 unfold fh at ho'
 rw[Bool.and_eq_true] at ho'
 have:=bc.1 ho'.1
 exact⟨by omega,F9 (tP hs),Ga (tP hs)⟩
theorem Dk {f:List aa} (hl:f.length≤10000000) (hs : ∀ x∈f,x.2.2.1.2.2.1.size≤9223372036854775807) (hk : ∀ x∈f,x.2.2.2.2.2.1.length≤10000000):oC f=some ((ba (bL f),()),())∧kP f=some ((ba (bL f),()),()):=by
 rw[uJ,uH,jP hl hs hk,mU hl hs hk]
 simp only[Option.bind_some]
 unfold bL
 cases ho:fh f with
 | false=>exact⟨rfl,rfl⟩
 | true =>
  simp only[Bool.not_true,Bool.false_eq_true,if_false]
  have ho':=ho
  unfold fh at ho'
  rw[Bool.and_eq_true] at ho'
  have hlen:=bc.1 ho'.1
  have ht:=ho'.2
  unfold o5 at ht
  cases hc:cQ f f.length ((f.length:Int) - 1) with
  | none=>rw[hc] at ht; cases ht
  | some p =>
   obtain⟨h1,h2⟩:=Gc (by omega) f.length ((f.length:Int) - 1) p.1 p.2 hc
   rw[wr (by omega) (by omega),(h1 1).1,(h1 0).2,EV]
   simp only[Option.bind_some,aq]
   by_cases hb:(fT f).length≤200
   ·have hb':(bz f f.length ((f.length:Int) - 1) 1).length≤200:=hb
    rw[av (by omega),if_pos (by simp[hb])]
    exact⟨rfl,rfl⟩
   ·have hb' : ¬(bz f f.length ((f.length:Int) - 1) 1).length≤200:=hb
    rw[aD (by omega),if_neg (fun h=>hb h.2)]
    exact⟨rfl,rfl⟩
theorem Ax (f:List aa):(bL f).length≤200:=by
 unfold bL
 split
 ·rename_i h
  exact h.2
 ·exact Nat.zero_le _
noncomputable def g8 (w:ae):ae×Bool :=
 if w=[] then([],true)
 else if(w.all li && decide (w.length≤200))=false then([],false)
 else if w.head? = some 61 then(let r:=gq (ba (w.drop 1)); if r.2=true∧bL r.1≠[]∧(bL r.1).length < 200 then(61 :: bL r.1,true) else([],false))
 else if fC w=true then(lb (de (jB w)),true)
 else if(bq w).2=true then(w,true)
 else if w.length=200 then([],false) else(39 :: w,true)
theorem Uk {w:ae} (hx:w.length≤9223372036854775807):pM (ba w)=some ((ba (g8 w).1,(g8 w).2,()),()):=by
 rw[Cc,qx (by rw[aq]; exact hx)]
 simp only[Option.bind_some]
 have e0 : ∀ x:ae,(ByteArray.toList (ba x) == ByteArray.toList (⟨#[]⟩:ByteArray))=decide (x=[]):=fun x=>cN (b:=[])
 have e1:(plain (ba w) && decide (((ba w).size:Int)≤200))=(w.all li && decide (w.length≤200)):=by
  rw[yu,aq]
  congr 1
  rw[Bool.eq_iff_iff,decide_eq_true_eq,decide_eq_true_eq]
  omega
 rw[e0,e1]
 unfold g8
 by_cases hw:w=[]
 ·subst hw
  rfl
 ·rw[if_neg hw,decide_eq_false hw]
  cases hp:(w.all li && decide (w.length≤200)) with
  | false=>rfl
  | true =>
   rw[if_neg (by decide)]
   have hp':=hp
   rw[Bool.and_eq_true,decide_eq_true_eq] at hp'
   have hl:=hp'.2
   simp only[Bool.not_true,Bool.false_eq_true,if_false]
   cases w with
   | nil=>exact absurd rfl hw
   | cons c l =>
    rw[o6,CZ c 61 (n:=61) rfl]
    by_cases hc:c=61
    ·subst hc
     have hll:l.length≤200:=by rw[List.length_cons] at hl; omega
     simp only[List.head?_cons,decide_true,if_true,List.drop_succ_cons,List.drop_zero]
     rw[show(1:Int)=((1:Nat):Int) from rfl,fq (by simp)]
     simp only[List.drop_succ_cons,List.drop_zero]
     obtain⟨r1,_,r3,r4⟩:=ra (x:=ba l) (by rw[aq]; omega)
     rw[r1]
     simp only[Option.bind_some]
     have hsm:(gq (ba l)).1.length≤10000000∧(∀ x∈(gq (ba l)).1,x.2.2.1.2.2.1.size≤9223372036854775807) ∧ ∀ x∈(gq (ba l)).1,x.2.2.2.2.2.1.length≤10000000:=by
      cases hb:(gq (ba l)).2 with
      | false=>rw[r4 hb]; simp
      | true =>
       have:=Aw (r3 hb)
       exact⟨by omega,this.2⟩
     have hfl:=Ax (gq (ba l)).1
     rw[(Dk hsm.1 hsm.2.1 hsm.2.2).2]
     simp only[Option.bind_some]
     rw[e0,aq,show(⟨#[61]⟩:ByteArray)=ba [61] from rfl,bk (by simp only[List.length_singleton]; omega),wr (by omega) (by omega)]
     cases hb:(gq (ba l)).2 with
     | false=>simp
     | true =>
      by_cases h1:bL (gq (ba l)).1=[]
      ·simp[h1]
      ·by_cases h2:(bL (gq (ba l)).1).length < 200
       ·rw[av h1,av (by omega)]
        simp[h1,h2]
       ·rw[av h1,aD (by omega)]
        simp[h1,h2]
    ·have hnc : ¬(c :: l).head? = some (61:UInt8):=by simpa using hc
     rw[if_neg hnc]
     simp only[hc,decide_false,Bool.false_eq_true,if_false]
     generalize hwd:(c :: l:ae)=w at *
     have hsz:(ba w).size=w.length:=aq w
     obtain⟨v,n1,n2⟩:=Al hw (by omega)
     rw[n1,rn (by omega)]
     simp only[Option.bind_some]
     cases ho:fC w with
     | true =>
      have hrg:=yo ho
      have hok:aN (vN (jB w))=true:=by
       rw[Rh]
       exact bc.2 hrg
      rw[n2 ho]
      simp only[if_true]
      rw[gf (je hok),if_pos hok]
      simp only[Option.bind_some,fX]
      rfl
     | false =>
      simp only[Bool.false_eq_true,if_false]
      cases hr:(bq w).2 with
      | true =>
       obtain⟨k1,k2⟩:=pY hr
       simp only[Bool.not_true,Bool.false_eq_true,if_false]
       rw[gf (je k1),if_pos k1,k2]
       simp only[Option.bind_some]
       rw[av (by rw[hsz]; omega)]
       rfl
      | false =>
       simp only[Bool.not_false,Bool.false_eq_true,if_false,if_true]
       have hov:aN (2,0,ba w,())=true:=by
        unfold aN
        rw[if_pos rfl]
        simp only[decide_true,Bool.true_and]
        rw[e1]
        exact hp
       have htx:cE (2,0,ba w,())=ba (39 :: w):=by
        show(⟨#[39]⟩:ByteArray)++ba w=_
        rw[show(⟨#[39]⟩:ByteArray)=ba [39] from rfl,mz]
        rfl
       rw[gf (je hov),if_pos hov,htx]
       simp only[Option.bind_some,aq,List.length_cons]
       by_cases h2:w.length=200
       ·rw[aD (by omega),if_pos h2]
        rfl
       ·rw[av (by omega),if_neg h2]
        rfl
theorem BH {w:ae} (hx:w.length≤9223372036854775807):eX (ba w)=(ba (g8 w).1,(g8 w).2):=by
 have h:=(tQ (x:=ba w) (by rw[aq]; exact hx)).2.1
 rw[Uk hx] at h
 have:=Option.some.inj h
 exact Prod.ext (congrArg (fun z=>z.1.1) this).symm (congrArg (fun z=>z.1.2.1) this).symm
theorem Rr {n:Int} (h0 : -1000000000000000≤n) (h1:n≤1000000000000000):fC (lb (de n))=true∧jB (lb (de n))=n∧(lb (de n)).all li=true∧(lb (de n)).head? ≠ some 61∧(lb (de n)).length≤20∧lb (de n)≠[]:=by
 have hsz:=sf (n:=n) (by omega) (by omega)
 have hd : ∀ u:Nat,u≤1000000000000000→(Lib.decDigits u).all cZ=true∧bn 0 (Lib.decDigits u)=u∧Lib.decDigits u≠[]∧(Lib.decDigits u).head? ≠ some 45∧(Lib.decDigits u).head? ≠ some 61∧(Lib.decDigits u).all li=true:=by
  intro u hu
  have ha:=Bn (pW u)
  refine⟨ha,pV u,wX.1,wX.2.2.2.1,?_,BF (Mn u)⟩
  intro h
  cases hdd:Lib.decDigits u with
  | nil=>rw[hdd] at h; cases h
  | cons c t =>
   rw[hdd] at h ha
   simp only[List.head?_cons,Option.some.injEq] at h
   subst h
   simp[cZ] at ha
 by_cases hn:n < 0
 ·obtain⟨d1,d2,d3,d4,d5,d6⟩:=hd (-n).toNat (by omega)
  have e:lb (de n)=45 :: Lib.decDigits (-n).toNat:=by rw[uT hn,dk]
  rw[←pU,e] at hsz
  rw[e]
  have hm:gY (45 :: Lib.decDigits (-n).toNat)=Lib.decDigits (-n).toNat:=rfl
  have hg:Km (45 :: Lib.decDigits (-n).toNat)=true:=rfl
  refine⟨?_,?_,?_,by simp,hsz,by simp⟩
  ·unfold fC ip
   rw[hm,d1,d2,decide_eq_true d3,decide_eq_true (by omega)]
   rfl
  ·unfold jB p9
   rw[hm,hg,d2,if_pos rfl]
   omega
  ·rw[List.all_cons,d6]
   rfl
 ·obtain⟨d1,d2,d3,d4,d5,d6⟩:=hd n.toNat (by omega)
  have e:lb (de n)=Lib.decDigits n.toNat:=by
   rw[show de n=de (n.toNat:Int) by rw[show(n.toNat:Int)=n by omega],lc,dk]
  rw[←pU,e] at hsz
  rw[e]
  have hm:gY (Lib.decDigits n.toNat)=Lib.decDigits n.toNat:=if_neg d4
  have hg:Km (Lib.decDigits n.toNat)=false:=decide_eq_false d4
  refine⟨?_,?_,d6,d5,hsz,d3⟩
  ·unfold fC ip
   rw[hm,d1,d2,decide_eq_true d3,decide_eq_true (by omega)]
   rfl
  ·unfold jB p9
   rw[hm,hg,d2,if_neg (by decide)]
   omega
theorem Ay {f:List aa} (h:fh f=true) (hl:(fT f).length < 200) (hne:fT f≠[]):g8 (61 :: fT f)=(61 :: fT f,true):=by
 obtain⟨h60,h1,har,d,hc⟩:=Mq h
 have hp:(61 :: fT f).all li=true:=by
  rw[List.all_cons]
  exact(Bool.and_eq_true _ _).mpr ⟨by decide,BG _ _ _ _ hc 1⟩
 have ht:bL f=fT f:=if_pos ⟨h,by omega⟩
 unfold g8
 rw[if_neg (by simp),hp,decide_eq_true (by rw[List.length_cons]; omega),if_neg (by decide),if_pos (by rfl)]
 simp only[List.drop_succ_cons,List.drop_zero]
 rw[Rq h (by omega)]
 simp only[ht]
 rw[if_pos (by simp[hne,hl])]
theorem Gk {w:ae} (hw:w≠[]) (hp:(w.all li && decide (w.length≤200))=true):g8 w=if w.head? = some 61 then(let r:=gq (ba (w.drop 1)); if r.2=true∧bL r.1≠[]∧(bL r.1).length < 200 then(61 :: bL r.1,true) else([],false)) else if fC w=true then(lb (de (jB w)),true) else if(bq w).2=true then(w,true) else if w.length=200 then([],false) else(39 :: w,true):=by
 unfold g8
 rw[if_neg hw,hp,if_neg (by decide)]
theorem P1 {w:ae} (h:(g8 w).2=true) (hne:(g8 w).1≠[]):g8 (g8 w).1=((g8 w).1,true):=by
 by_cases hw:w=[]
 ·have e:g8 w=([],true):=if_pos hw
  rw[e] at hne
  exact absurd rfl hne
 ·cases hp:(w.all li && decide (w.length≤200)) with
  | false =>
   have e:g8 w=([],false):=by
    unfold g8
    rw[if_neg hw,hp,if_pos rfl]
   rw[e] at h
   cases h
  | true =>
   have hp':=hp
   rw[Bool.and_eq_true,decide_eq_true_eq] at hp'
   have e:=Gk hw hp
   by_cases h61:w.head? = some 61
   ·rw[if_pos h61] at e
    dsimp only at e
    by_cases hr:(gq (ba (w.drop 1))).2=true∧bL (gq (ba (w.drop 1))).1≠[]∧(bL (gq (ba (w.drop 1))).1).length < 200
    ·have hd:(w.drop 1).length≤200:=by rw[List.length_drop]; omega
     have hok:=(ra (x:=ba (w.drop 1)) (by rw[aq]; omega)).2.2.1 hr.1
     have ht:bL (gq (ba (w.drop 1))).1=fT (gq (ba (w.drop 1))).1:=by
      have:=hr.2.1
      unfold bL at this ⊢
      by_cases k:fh (gq (ba (w.drop 1))).1=true∧(fT (gq (ba (w.drop 1))).1).length≤200
      ·rw[if_pos k]
      ·rw[if_neg k] at this
       exact absurd rfl this
     rw[if_pos hr,ht] at e
     rw[e]
     exact Ay hok (by rw[←ht]; exact hr.2.2) (by rw[←ht]; exact hr.2.1)
    ·rw[if_neg hr] at e
     rw[e] at h
     cases h
   ·rw[if_neg h61] at e
    by_cases hn:fC w=true
    ·rw[if_pos hn] at e
     obtain⟨r0,r1⟩:=yo hn
     obtain⟨i1,i2,i3,i4,i5,i6⟩:=Rr r0 r1
     rw[e]
     dsimp only
     rw[Gk i6 (by rw[i3,decide_eq_true (by omega)]; rfl),if_neg i4,if_pos i1,i2]
    ·rw[if_neg hn] at e
     by_cases hv:(bq w).2=true
     ·rw[if_pos hv] at e
      rw[e]
      dsimp only
      exact e
     ·rw[if_neg hv] at e
      by_cases h200:w.length=200
      ·rw[if_pos h200] at e
       rw[e] at h
       cases h
      ·rw[if_neg h200] at e
       rw[e]
       dsimp only
       have hpl:(39 :: w).all li=true:=by
        rw[List.all_cons,hp'.1]
        rfl
       have hov:aN (vT (ba w))=true:=by
        unfold aN vT
        rw[if_pos rfl]
        simp only[decide_true,Bool.true_and]
        rw[yu,hp'.1,aq]
        exact decide_eq_true (by omega)
       have hvt:(bq (39 :: w)).2=true:=by
        have e:lb (cE (vT (ba w)))=39 :: w:=by
         show lb ((⟨#[39]⟩:ByteArray)++ba w)=_
         rw[show(⟨#[39]⟩:ByteArray)=ba [39] from rfl,mz,dk]
         rfl
        have:=ye hov
        rw[e] at this
        rw[this]
       have hnn : ¬fC (39 :: w)=true:=by
        unfold fC ip
        have hm:gY (39 :: w)=39 :: w:=rfl
        rw[hm,List.all_cons]
        have:cZ 39=false:=by decide
        rw[this]
        simp
       rw[Gk (by simp) (by rw[hpl,decide_eq_true (by rw[List.length_cons]; omega)]; rfl),if_neg (by simp),if_neg hnn,if_pos hvt]
def T8 (x:ByteArray):Prop:=x=eS∨eY x=true
theorem SH {x:ByteArray} (hx:x.size≤9223372036854775807) (h:(eX x).2=true):T8 (eX x).1:=by
 obtain⟨w,rfl⟩ : ∃ s,x=ba s:=⟨lb x,(fX x).symm⟩
 rw[aq] at hx
 rw[BH hx] at h ⊢
 by_cases he:(g8 w).1=[]
 ·left
  show ba (g8 w).1=eS
  rw[he]
 ·right
  have hi:=P1 h he
  have hl:(g8 w).1.length≤200:=by
   have:=(tQ (x:=ba w) (by rw[aq]; exact hx)).2.2
   rw[BH hx,aq] at this
   exact this
  show eY (ba (g8 w).1)=true
  unfold eY
  rw[BH (by omega),hi]
  have:ba (g8 w).1≠eS:=fun e=>he (q7 (b:=[]) e)
  simp[this]
theorem Lw {f:List aa} (h:fh f=true) (hl:(fT f).length < 200) (hne:fT f≠[]):eY (ba (61 :: fT f))=true:=by
 unfold eY
 rw[BH (by rw[List.length_cons]; omega),Ay h hl hne]
 have:ba (61 :: fT f)≠eS:=fun e=>by cases q7 (b:=[]) e
 simp[this]
end Go.Proofs.YtddiiceaindlhaaGreatDoor.Abs
set_option linter.unusedVariables false
set_option linter.unusedSimpArgs false
set_option linter.unusedSectionVars false
namespace Go.Proofs.YtddiiceaindlhaaGreatDoor.Abs
open Go
structure TH (g:aa→aa):Prop where
 ok : ∀ x,bG x=true→bG (g x)=true
 kids : ∀ x,bG x=true→(g x).2.2.2.2.2.1=x.2.2.2.2.2.1
 six : ∀ x,bG x=true→((g x).1=6↔x.1=6)
 three : ∀ x,(g x).1=3→x.1=3
section
variable {g:aa→aa} (M:TH g) {f:List aa}
include M
theorem Kx {k:Int} (h:em (f.map g) k=true):em f k=true:=by
 unfold em at h ⊢
 rw[decide_eq_true_eq,List.getD_eq_getElem?_getD] at h ⊢
 rw[List.getElem?_map] at h
 cases hx:f[k.toNat]? with
 | none=>rw[hx] at h; exact h
 | some x =>
  rw[hx] at h
  exact M.three x h
theorem HA {c c':Int→Option (Int×Nat)} (hc : ∀ k r,c k=some r→c' k=some r) {call:Bool} : ∀(l:List Int) (cur:Int) (h:Nat) (r:Int×Nat),dQ c f call l cur h=some r→dQ c' (f.map g) call l cur h=some r
 | [],cur,h,r,e=>e
 | kid :: l,cur,h,r,e=>by
  simp only[dQ] at e ⊢
  split at e
  ·rename_i hk
   cases hp:c kid with
   | none=>rw[hp] at e; cases e
   | some p =>
    rw[hp,Option.bind_some] at e
    rw[if_pos ⟨hk.1,hk.2.1,fun ha=>hk.2.2 (Kx M ha)⟩,hc kid p hp,Option.bind_some]
    exact HA hc l p.1 (max h p.2) r e
  ·cases e
theorem Mr : ∀(n:Nat) (k:Int) (r:Int×Nat),cQ f n k=some r→cQ (f.map g) n k=some r
 | 0,k,r,e=>e
 | n+1,k,r,e=>by
  unfold cQ at e ⊢
  by_cases h0:0≤k
  ·rw[if_pos h0] at e ⊢
   rw[List.getElem?_map]
   cases hx:f[k.toNat]? with
   | none=>rw[hx] at e; cases e
   | some x =>
    rw[hx] at e
    simp only[Option.map_some] at e ⊢
    by_cases ho:bG x=true
    ·rw[if_pos ho] at e
     rw[if_pos (M.ok x ho),M.kids x ho]
     have h6:decide ((g x).1=6)=decide (x.1=6):=by
      rw[Bool.eq_iff_iff,decide_eq_true_eq,decide_eq_true_eq]
      exact M.six x ho
     rw[h6]
     exact HA M (fun k r=>Mr n k r) _ _ _ _ e
    ·rw[if_neg ho] at e
     cases e
  ·rw[if_neg h0] at e
   cases e
theorem xi (h:fh f=true):fh (f.map g)=true:=by
 unfold fh o5 at h ⊢
 rw[Bool.and_eq_true] at h ⊢
 rw[List.length_map]
 refine⟨h.1,?_⟩
 have h2:=h.2
 cases hc:cQ f f.length ((f.length:Int) - 1) with
 | none=>rw[hc] at h2; cases h2
 | some p =>
  obtain⟨s,d⟩:=p
  rw[hc] at h2
  rw[Mr M _ _ _ hc]
  simp only[Bool.and_eq_true,Bool.not_eq_true',decide_eq_true_eq] at h2 ⊢
  refine⟨h2.1,?_,h2.2.2⟩
  rw[Bool.eq_false_iff]
  intro ha
  have:=Kx M ha
  rw[h2.2.1] at this
  cases this
end
def jC:aa:=nC (vE 3)
def jD (x:aa):aa:=if bG x=true then x else jC
def jg (c r:Int) (p:aB):aB:=((if p.2.1=true then p.1.1 else p.1.1+c,if p.2.2.1=true then p.1.2.1 else p.1.2.1+r,()),p.2.1,p.2.2.1,())
def md (x:aa) (a:aB):aa:=(x.1,x.2.1,x.2.2.1,a,x.2.2.2.2.1,x.2.2.2.2.2.1,())
def Gl (x:aa) (b:aB):aa:=(x.1,x.2.1,x.2.2.1,x.2.2.2.1,b,x.2.2.2.2.2.1,())
def jS (c r:Int) (x:aa):aa :=
 if x.1=2 then jD (md x (jg c r x.2.2.2.1)) else if x.1=3 then jD (Gl (md x (jg c r x.2.2.2.1)) (jg c r x.2.2.2.2.1)) else x
def fj (row many:Int) (closed:Bool) (other n:Int):Int:=if n < row then n else if closed=false then n+many else if n < row+many then other else n - many
def rowP (row many:Int) (closed:Bool) (other:Int) (p:aB):aB:=((p.1.1,fj row many closed other p.1.2.1,()),p.2.1,p.2.2.1,())
def fy (row many:Int) (closed:Bool) (x:aa):aa :=
 if x.1=2 then(if closed=true∧row≤x.2.2.2.1.1.2.1∧x.2.2.2.1.1.2.1 < row+many then jC else jD (md x (rowP row many closed row x.2.2.2.1)))
 else if x.1=3 then jD (Gl (md x (rowP row many closed row x.2.2.2.1)) (rowP row many closed (row - 1) x.2.2.2.2.1)) else x
theorem Ms:bG jC=true:=by decide
theorem BI (x:aa):bG (jD x)=true:=by
 unfold jD
 split
 ·assumption
 ·exact Ms
theorem BJ {x:aa} (h:bG x=true) (k:x.1=2∨x.1=3):x.2.2.2.2.2.1=[]:=by
 have hk:kl x=(x.2.2.2.2.2.1.length:Int):=rfl
 unfold bG at h
 have e:x.2.2.2.2.2.1.length=0:=by
  rcases k with k | k
  ·rw[if_neg (by omega),if_pos k] at h
   simp only[Bool.and_eq_true,decide_eq_true_eq] at h
   have:=h.1.2
   omega
  ·rw[if_neg (by omega),if_neg (by omega),if_pos k] at h
   simp only[Bool.and_eq_true,decide_eq_true_eq] at h
   have:=h.1.2
   omega
 exact List.length_eq_zero_iff.1 e
theorem nH (x:aa):(jD x).1=x.1∨(jD x).1=1:=by
 unfold jD
 split
 ·exact .inl rfl
 ·exact .inr rfl
theorem uZ {x:aa} (h:x.2.2.2.2.2.1=[]):(jD x).2.2.2.2.2.1=[]:=by
 unfold jD
 split
 ·exact h
 ·rfl
theorem P2 (c r:Int):TH (jS c r) where
 ok x h:=by
  unfold jS
  split
  ·exact BI _
  ·split
   ·exact BI _
   ·exact h
 kids x h:=by
  unfold jS
  split
  ·rename_i k
   have e:=BJ h (.inl k)
   rw[e]
   exact uZ e
  ·split
   ·rename_i k
    have e:=BJ h (.inr k)
    rw[e]
    exact uZ e
   ·rfl
 six x h:=by
  unfold jS
  split
  ·rename_i k
   have:=nH (md x (jg c r x.2.2.2.1))
   have e:(md x (jg c r x.2.2.2.1)).1=x.1:=rfl
   omega
  ·split
   ·rename_i k
    have:=nH (Gl (md x (jg c r x.2.2.2.1)) (jg c r x.2.2.2.2.1))
    have e:(Gl (md x (jg c r x.2.2.2.1)) (jg c r x.2.2.2.2.1)).1=x.1:=rfl
    omega
   ·exact Iff.rfl
 three x h:=by
  unfold jS at h
  split at h
  ·rename_i k
   have:=nH (md x (jg c r x.2.2.2.1))
   have e:(md x (jg c r x.2.2.2.1)).1=x.1:=rfl
   omega
  ·split at h
   ·assumption
   ·exact h
theorem Ky (row many:Int) (closed:Bool):TH (fy row many closed) where
 ok x h:=by
  unfold fy
  split
  ·split
   ·exact Ms
   ·exact BI _
  ·split
   ·exact BI _
   ·exact h
 kids x h:=by
  unfold fy
  split
  ·rename_i k
   have e:=BJ h (.inl k)
   rw[e]
   split
   ·rfl
   ·exact uZ e
  ·split
   ·rename_i k
    have e:=BJ h (.inr k)
    rw[e]
    exact uZ e
   ·rfl
 six x h:=by
  unfold fy
  split
  ·rename_i k
   split
   ·have e:jC.1=1:=rfl
    omega
   ·have:=nH (md x (rowP row many closed row x.2.2.2.1))
    have e:(md x (rowP row many closed row x.2.2.2.1)).1=x.1:=rfl
    omega
  ·split
   ·rename_i k
    have:=nH (Gl (md x (rowP row many closed row x.2.2.2.1)) (rowP row many closed (row - 1) x.2.2.2.2.1))
    have e:(Gl (md x (rowP row many closed row x.2.2.2.1)) (rowP row many closed (row - 1) x.2.2.2.2.1)).1=x.1:=rfl
    omega
   ·exact Iff.rfl
 three x h:=by
  unfold fy at h
  split at h
  ·rename_i k
   split at h
   ·cases h
   ·have:=nH (md x (rowP row many closed row x.2.2.2.1))
    have e:(md x (rowP row many closed row x.2.2.2.1)).1=x.1:=rfl
    omega
  ·split at h
   ·assumption
   ·exact h
noncomputable def iq (x:ByteArray):Option (List aa):=if(lb x).head? = some 61∧(gq (ba ((lb x).drop 1))).2=true then some (gq (ba ((lb x).drop 1))).1 else none
noncomputable def rd (g:aa→aa) (x:ByteArray):Option ByteArray:=match iq x with
 | none=>some x
 | some f=>if bL (f.map g)≠[]∧(bL (f.map g)).length < 200 then some (ba (61 :: bL (f.map g))) else none
theorem tU {x:ByteArray} {f:List aa} (h:iq x=some f) (hx:x.size≤9223372036854775807):fh f=true:=by
 unfold iq at h
 split at h
 ·rename_i k
  cases h
  have hl:(ba ((lb x).drop 1)).size≤9223372036854775807:=by
   rw[aq,List.length_drop,pU]
   omega
  exact(ra hl).2.2.1 k.2
 ·cases h
theorem Rs {f:List aa} (h:bL f≠[]):bL f=fT f∧fh f=true:=by
 unfold bL at h ⊢
 by_cases k:fh f=true∧(fT f).length≤200
 ·rw[if_pos k]
  exact⟨rfl,k.1⟩
 ·rw[if_neg k] at h
  exact absurd rfl h
theorem Gm {g:aa→aa} {x y:ByteArray} (hx:eY x=true) (h:rd g x=some y):eY y=true:=by
 unfold rd at h
 cases hf:iq x with
 | none =>
  rw[hf] at h
  cases h
  exact hx
 | some f =>
  rw[hf] at h
  simp only at h
  split at h
  ·rename_i k
   cases h
   obtain⟨e1,e2⟩:=Rs k.1
   rw[e1] at k ⊢
   exact Lw e2 k.2 k.1
  ·cases h
end Go.Proofs.YtddiiceaindlhaaGreatDoor.Abs
set_option linter.unusedVariables false
set_option linter.unusedSimpArgs false
set_option linter.unusedSectionVars false
namespace Go.Proofs.YtddiiceaindlhaaGreatDoor.Abs
open Go
theorem R0 (p:aB):bG (nP p)=ar p.1:=by
 unfold bG kl
 simp[v0,p0]
theorem R3 (p q:aB):bG (nA p q)=cc (p.1,q.1,()):=by
 unfold bG kl
 simp[v0,p0]
theorem Rt (r:ai):cc (r,r,())=ar r:=by
 unfold cc
 simp
theorem P3 (p:aB):bp (nP p)=some ((ar p.1,()),()):=by
 rw[k9,pT]
 simp only[bne_self_eq_false,Bool.false_eq_true,if_false,beq_self_eq_true,if_true,Option.bind_some,lU,Rt]
theorem P4 (p q:aB):bp (nA p q)=some ((cc (p.1,q.1,()),()),()):=by
 rw[k9,pT]
 simp only[show((3:Int) != 2)=true from rfl,show((3:Int) != 3)=false from rfl,show((3:Int) == 2)=false from rfl,Bool.false_eq_true,if_false,if_true,Option.bind_some,lU]
theorem sk {l:List Int} (h:l.length≤1000000):al l=some ((l,()),()):=by
 rw[pg]
 unfold fe
 simp only[gI?,dite_true,Option.bind_some]
 exact if_pos (by omega)
theorem yv:al ([]:List Int)=some (([],()),()):=sk (by decide)
theorem Gn {op:Int} {k:Nat} (h:jO op (k:Int)=true):k≤1000:=by
 unfold jO at h
 split at h
 ·simp only[Bool.or_eq_true,decide_eq_true_eq] at h
  omega
 ·split at h
  ·have:=bc.1 h
   omega
  ·split at h
   ·simp only[decide_eq_true_eq] at h
    omega
   ·cases h
theorem yw {G:aa→Int→Int→Option ((aa×Unit)×(Int×(Int×Unit)))} {P:List aa→Int→Int→Int→Int→List aa→Option ((List aa×Unit)×(Int×(Int×Unit)))}
  (hP : ∀ x0 x1 x2 x3 x4 x5,P x0 x1 x2 x3 x4 x5=if(decide (x2 < x1))=true then(ix x0 x2 (ag.dflt) fun y1=>(if(y1.1 == 2)=true then((G y1 x3 x4).bind fun z1=>((bp z1.1.1).bind fun z2=>(if(!z2.1.1)=true then((jF 3).bind fun z3=>((al ([]:(List Int))).bind fun z4=>(app x5 ([(1,0,z3.1.1,((0,0,()),false,false,()),((0,0,()),false,false,()),z4.1.1,())]:(List aa)) 120 fun y2=>(P x0 x1 (IntKind.i64.wrap (x2+1)) z1.2.1 z1.2.2.1 y2)))) else((al z1.1.1.2.2.2.2.2.1).bind fun z5=>(app x5 ([(z1.1.1.1,z1.1.1.2.1,z1.1.1.2.2.1,z1.1.1.2.2.2.1,z1.1.1.2.2.2.2.1,z5.1.1,())]:(List aa)) 120 fun y3=>(P x0 x1 (IntKind.i64.wrap (x2+1)) z1.2.1 z1.2.2.1 y3)))))) else(if(y1.1 == 3)=true then((G y1 x3 x4).bind fun z6=>((bp z6.1.1).bind fun z7=>(if(!z7.1.1)=true then((jF 3).bind fun z8=>((al ([]:(List Int))).bind fun z9=>(app x5 ([(1,0,z8.1.1,((0,0,()),false,false,()),((0,0,()),false,false,()),z9.1.1,())]:(List aa)) 120 fun y4=>(P x0 x1 (IntKind.i64.wrap (x2+1)) z6.2.1 z6.2.2.1 y4)))) else((al z6.1.1.2.2.2.2.2.1).bind fun z10=>(app x5 ([(z6.1.1.1,z6.1.1.2.1,z6.1.1.2.2.1,z6.1.1.2.2.2.1,z6.1.1.2.2.2.2.1,z10.1.1,())]:(List aa)) 120 fun y5=>(P x0 x1 (IntKind.i64.wrap (x2+1)) z6.2.1 z6.2.2.1 y5)))))) else((al y1.2.2.2.2.2.1).bind fun z11=>(app x5 ([(y1.1,y1.2.1,y1.2.2.1,y1.2.2.2.1,y1.2.2.2.2.1,z11.1.1,())]:(List aa)) 120 fun y6=>(P x0 x1 (IntKind.i64.wrap (x2+1)) x3 x4 y6)))))) else(some ((x5,()),(x3,x4,()))))
  {a b:Int} {A B C:aB→aB} {g:aa→aa} (h2 : ∀ p,ar p.1=true→G (nP p) a b=some ((nP (A p),()),a,b,())) (h3 : ∀ p q,cc (p.1,q.1,())=true→G (nA p q) a b=some ((nA (B p) (C q),()),a,b,()))
  (g2 : ∀ p,ar p.1=true→g (nP p)=if ar (A p).1=true then nP (A p) else jC) (g3 : ∀ p q,cc (p.1,q.1,())=true→g (nA p q)=if cc ((B p).1,(C q).1,())=true then nA (B p) (C q) else jC)
  (g1 : ∀ x,x.1≠2→x.1≠3→g x=x) {f:List aa} (hl:f.length≤1000000) :
  ∀(ys pre acc:List aa),f=pre++ys→(∀ x∈ys,bG x=true)→acc.length≤pre.length→P f (f.length:Int) (pre.length:Int) a b acc=some ((acc++ys.map g,()),a,b,())
 | [],pre,acc,h,_,_=>by
  rw[hP,av (bO h)]
  simp
 | y :: ys,pre,acc,h,hy,ha=>by
  have hlen:f.length=pre.length+(ys.length+1):=by rw[h]; simp
  have ih:=fun z=>yw hP h2 h3 g2 g3 g1 hl ys (pre++[y]) (acc++[z]) (aK h) (fun x hx=>hy x (List.mem_cons_of_mem _ hx)) (by simp; omega)
  rw[hP,aD (bP h),bv h,aX h (by omega)]
  have happ : ∀(z:aa) (k:List aa→Option ((List aa×Unit)×(Int×(Int×Unit)))),app acc [z] 120 k=k (acc++[z]):=fun z k=>bo (by simp only[List.length_singleton]; omega)
  have same:y.1≠2→y.1≠3→y.2.2.2.2.2.1.length≤1000000→some ((acc++y :: ys.map g,()),a,b,())=some ((acc++(y :: ys).map g,()),a,b,()):=fun k2 k3 _=>by rw[List.map_cons,g1 y k2 k3]
  cases sj (hy y List.mem_cons_self) with
  | con v k0 k1 k2 =>
   simp only[show((1:Int) == 2)=false from rfl,show((1:Int) == 3)=false from rfl,Bool.false_eq_true,if_false,yv,Option.bind_some,happ,ih,List.append_assoc,List.singleton_append,List.map_cons]
   rw[g1 (nC v) (by show(1:Int)≠2; decide) (by show(1:Int)≠3; decide)]
  | cell p k =>
   simp only[beq_self_eq_true,if_true,h2 p k,Option.bind_some,P3,uO,yv,happ,ih,List.append_assoc,List.singleton_append,List.map_cons,g2 p k]
   cases ar (A p).1 with
   | true=>simp only[Bool.not_true,Bool.false_eq_true,if_false,if_true]
   | false=>simp only[Bool.not_false,Bool.false_eq_true,if_false,if_true]; rfl
  | area p q k =>
   simp only[show((3:Int) == 2)=false from rfl,Bool.false_eq_true,if_false,beq_self_eq_true,if_true,h3 p q k,Option.bind_some,P4,uO,yv,happ,ih,List.append_assoc,List.singleton_append,List.map_cons,g3 p q k]
   cases cc ((B p).1,(C q).1,()) with
   | true=>simp only[Bool.not_true,Bool.false_eq_true,if_false,if_true]
   | false=>simp only[Bool.not_false,Bool.false_eq_true,if_false,if_true]; rfl
  | neg k =>
   simp only[show((4:Int) == 2)=false from rfl,show((4:Int) == 3)=false from rfl,Bool.false_eq_true,if_false,sk (l:=[k]) (by simp),Option.bind_some,happ,ih,List.append_assoc,List.singleton_append,List.map_cons]
   rw[g1 (4,0,v0,p0,p0,[k],()) (by show(4:Int)≠2; decide) (by show(4:Int)≠3; decide)]
  | bin op k k' k0 k1 =>
   simp only[show((5:Int) == 2)=false from rfl,show((5:Int) == 3)=false from rfl,Bool.false_eq_true,if_false,sk (l:=[k,k']) (by simp),Option.bind_some,happ,ih,List.append_assoc,List.singleton_append,List.map_cons]
   rw[g1 (5,op,v0,p0,p0,[k,k'],()) (by show(5:Int)≠2; decide) (by show(5:Int)≠3; decide)]
  | call op ks k =>
   have:=Gn k
   simp only[show((6:Int) == 2)=false from rfl,show((6:Int) == 3)=false from rfl,Bool.false_eq_true,if_false,sk (l:=ks) (by omega),Option.bind_some,happ,ih,List.append_assoc,List.singleton_append,List.map_cons]
   rw[g1 (6,op,v0,p0,p0,ks,()) (by show(6:Int)≠2; decide) (by show(6:Int)≠3; decide)]
theorem xj {p:aB} {c r:Int} (hp:ar p.1=true) (hc : -1000≤c∧c≤1000) (hr : -1000≤r∧r≤1000):lO p c r=some ((jg c r p,()),())∧na p c r=some ((jg c r p,()),()):=by
 obtain⟨⟨a,b,⟨⟩⟩,fc,fr,⟨⟩⟩:=p
 have hp':=bC.1 hp
 dsimp only at hp'
 rw[BN,K4]
 unfold jg
 dsimp only
 rw[dv (n:=a+c) (by omega) (by omega),dv (n:=b+r) (by omega) (by omega)]
 cases fc <;> cases fr <;> exact⟨rfl,rfl⟩
theorem P5 (p:aB):jD (nP p)=if ar p.1=true then nP p else jC:=by
 unfold jD
 rw[R0]
theorem P6 (p q:aB):jD (nA p q)=if cc (p.1,q.1,())=true then nA p q else jC:=by
 unfold jD
 rw[R3]
theorem TI (c r:Int) (p:aB):jS c r (nP p)=if ar (jg c r p).1=true then nP (jg c r p) else jC:=by
 rw[←P5]
 unfold jS
 rw[if_pos rfl]
 rfl
theorem TJ (c r:Int) (p q:aB):jS c r (nA p q)=if cc ((jg c r p).1,(jg c r q).1,())=true then nA (jg c r p) (jg c r q) else jC:=by
 rw[←P6]
 unfold jS
 rw[if_neg (by show ¬(3:Int)=2; decide),if_pos rfl]
 rfl
theorem Kz (c r:Int) (x:aa) (h2:x.1≠2) (h3:x.1≠3):jS c r x=x:=by
 unfold jS
 rw[if_neg h2,if_neg h3]
theorem Gr (row many:Int) (closed:Bool) (x:aa) (h2:x.1≠2) (h3:x.1≠3):fy row many closed x=x:=by
 unfold fy
 rw[if_neg h2,if_neg h3]
theorem Ru (row many:Int) (closed:Bool) (p q:aB):fy row many closed (nA p q)=if cc ((rowP row many closed row p).1,(rowP row many closed (row - 1) q).1,())=true then nA (rowP row many closed row p) (rowP row many closed (row - 1) q) else jC:=by
 rw[←P6]
 unfold fy
 rw[if_neg (by show ¬(3:Int)=2; decide),if_pos rfl]
 rfl
theorem R4 (row many:Int) (closed:Bool) (p:aB):fy row many closed (nP p)=if closed=true∧row≤p.1.2.1∧p.1.2.1 < row+many then jC else if ar (rowP row many closed row p).1=true then nP (rowP row many closed row p) else jC:=by
 rw[←P5]
 unfold fy
 rw[if_pos rfl]
 rfl
theorem TK (row many:Int) (closed:Bool) (p:aB):fy row many closed (nP p)=if ar (rowP row many closed 0 p).1=true then nP (rowP row many closed 0 p) else jC:=by
 rw[R4]
 unfold rowP fj
 dsimp only
 by_cases k:closed=true∧row≤p.1.2.1∧p.1.2.1 < row+many
 ·obtain⟨rfl,k1,k2⟩:=k
  rw[if_pos ⟨rfl,k1,k2⟩,if_neg]
  intro h
  rw[if_neg (by omega),if_neg (by decide),if_pos k2] at h
  have:=(bC.1 h).2
  dsimp only at this
  omega
 ·rw[if_neg k]
  by_cases k1:p.1.2.1 < row
  ·simp only[if_pos k1]
  ·by_cases k2:closed=false
   ·simp only[if_neg k1,if_pos k2]
   ·have k3 : ¬p.1.2.1 < row+many:=fun h=>k ⟨by simpa using k2,by omega,h⟩
    simp only[if_neg k1,if_neg k2,if_neg k3]
section
variable {f:List aa} (hf:fh f=true)
include hf
theorem re:f.length≤60 ∧ ∀ x∈f,bG x=true:=by
 refine⟨(Aw hf).1,fun x hx => ?_⟩
 obtain⟨i,hi,rfl⟩:=List.getElem_of_mem hx
 exact(lV hf i f[i] (List.getElem?_eq_getElem hi)).1
theorem Lx {c r:Int} (hc : -1000≤c∧c≤1000) (hr : -1000≤r∧r≤1000):CO f c r=some ((f.map (jS c r),()),()):=by
 obtain⟨hl,hn⟩:=re hf
 have h:=yw (G:=r7) (P:=bV) (fun _ _ _ _ _ _=>sc) (a:=c) (b:=r) (A:=jg c r) (B:=jg c r) (C:=jg c r) (g:=jS c r) (fun p k=>by
   rw[yO,(xj k hc hr).1]
   simp only[Option.bind_some,show((2:Int) == 3)=false from rfl,Bool.false_eq_true,if_false]) (fun p q k=>by
   rw[yO,(xj (dE k).1 hc hr).1,(xj (dE k).2 hc hr).1]
   simp only[Option.bind_some,beq_self_eq_true,if_true]) (fun p _=>TI c r p) (fun p q _=>TJ c r p q) (Kz c r) (f:=f) (by omega) f [] [] rfl hn (Nat.le_refl _)
 rw[Lf,vv]
 have h':bV f (f.length:Int) 0 c r []=some ((f.map (jS c r),()),c,r,()):=h
 rw[h']
 rfl
theorem E3 {row many:Int} (hr:1≤row∧row≤1000) (hm : -1000≤many∧many≤1000):Bc f row many=some ((f.map (fy row many false),()),()):=by
 obtain⟨hl,hn⟩:=re hf
 have key : ∀ p:aB,ar p.1=true→(decide (p.1.2.1≥row)=true→IntKind.i64.wrap (p.1.2.1+many)=(rowP row many false 0 p).1.2.1)∧(¬decide (p.1.2.1≥row)=true→p.1.2.1=(rowP row many false 0 p).1.2.1):=fun p k=>by
  have:=bC.1 k
  unfold rowP fj
  dsimp only
  refine⟨fun h => ?_,fun h => ?_⟩
  ·rw[decide_eq_true_eq] at h
   rw[dv (by omega) (by omega),if_neg (by omega),if_pos rfl]
  ·rw[decide_eq_true_eq] at h
   rw[if_pos (by omega)]
 have same : ∀(n:Int) (p:aB),rowP row many false n p=rowP row many false 0 p:=fun n p=>by
  unfold rowP fj
  split
  ·rfl
  ·rw[if_pos rfl,if_pos rfl]
 have form : ∀(o:Int) (p:aB),((p.1.1,(rowP row many false 0 p).1.2.1,()),p.2.1,p.2.2.1,())=rowP row many false 0 p:=fun _ p=>rfl
 have h:=yw (G:=uy) (P:=ca) (fun _ _ _ _ _ _=>tG) (a:=row) (b:=many) (A:=rowP row many false 0) (B:=rowP row many false 0) (C:=rowP row many false 0) (g:=fy row many false) (fun p k=>by
   obtain⟨k1,k2⟩:=key p k
   have h0 : ¬decide ((0:Int)≥row)=true:=by rw[decide_eq_true_eq]; omega
   rw[zR,if_neg h0,if_neg h0]
   by_cases kk:decide (p.1.2.1≥row)=true
   ·rw[if_pos kk,k1 kk]
    rfl
   ·rw[if_neg kk]
    have:p=rowP row many false 0 p:=by
     rw[←form 0 p,←k2 kk]
    rw[←this]) (fun p q k=>by
   obtain⟨k1,k2⟩:=key p (dE k).1
   obtain⟨k3,k4⟩:=key q (dE k).2
   rw[zR]
   dsimp only
   by_cases kk:decide (p.1.2.1≥row)=true <;> by_cases kq:decide (q.1.2.1≥row)=true
   ·rw[if_pos kk,if_pos kq,k1 kk,k3 kq]
    rfl
   ·have e:q=rowP row many false 0 q:=by rw[←form 0 q,←k4 kq]
    rw[if_pos kk,if_neg kq,k1 kk,←e]
    rfl
   ·have e:p=rowP row many false 0 p:=by rw[←form 0 p,←k2 kk]
    rw[if_neg kk,if_pos kq,k3 kq,←e]
    rfl
   ·have e:p=rowP row many false 0 p:=by rw[←form 0 p,←k2 kk]
    have e':q=rowP row many false 0 q:=by rw[←form 0 q,←k4 kq]
    rw[if_neg kk,if_neg kq,←e,←e']) (fun p _=>TK row many false p) (fun p q _=>by rw[Ru,same,same (row - 1)]) (Gr row many false) (f:=f) (by omega) f [] [] rfl hn (Nat.le_refl _)
 rw[Nj,wI]
 have h':ca f (f.length:Int) 0 row many []=some ((f.map (fy row many false),()),row,many,()):=h
 rw[h']
 rfl
theorem E4 {row many:Int} (hr:1≤row∧row≤1000) (hm:0≤many∧many≤1000):Bd f row many=some ((f.map (fy row many true),()),()):=by
 obtain⟨hl,hn⟩:=re hf
 have hw:IntKind.i64.wrap (row+many)=row+many:=dv (by omega) (by omega)
 have keyV : ∀(o:Int) (r0:Int),-1000≤r0∧r0≤1000→(if decide (r0≥row+many)=true then IntKind.i64.wrap (r0 - many) else if decide (r0≥row)=true then o else r0)=fj row many true o r0:=fun o r0 hb=>by
  unfold fj
  simp only[decide_eq_true_eq,Bool.true_eq_false,if_false]
  by_cases c1:r0 < row
  ·rw[if_pos c1,if_neg (by omega),if_neg (by omega)]
  ·rw[if_neg c1]
   by_cases c2:r0 < row+many
   ·rw[if_pos c2,if_neg (by omega),if_pos (by omega)]
   ·rw[if_neg c2,if_pos (by omega),dv (by omega) (by omega)]
 have less1 : ∀(o k1 k2:Int) (v:ay) (p:aB) (q:aB) (ks:List Int),-1000≤p.1.2.1∧p.1.2.1≤1000→uz o k1 k2 v p q ks row many=some ((),((k1,k2,v,rowP row many true o p,q,ks,()),row,many,())):=fun o k1 k2 v p q ks hb=>by
  rw[JJ,hw]
  unfold rowP
  rw[←keyV o p.1.2.1 hb]
  by_cases c1:decide (p.1.2.1≥row+many)=true
  ·simp only[if_pos c1]
  ·simp only[if_neg c1]
   by_cases c2:decide (p.1.2.1≥row)=true
   ·simp only[if_pos c2]
   ·simp only[if_neg c2]
 have less2 : ∀(o:Int) (p q:aB),-1000≤q.1.2.1∧q.1.2.1≤1000→xQ o (nA p q) row many=some ((),(nA p (rowP row many true o q),row,many,())):=fun o p q hb=>by
  rw[H9,hw]
  unfold rowP
  rw[←keyV o q.1.2.1 hb]
  by_cases c1:decide (q.1.2.1≥row+many)=true
  ·simp only[if_pos c1]
  ·simp only[if_neg c1]
   by_cases c2:decide (q.1.2.1≥row)=true
   ·simp only[if_pos c2]
   ·simp only[if_neg c2]
 have h:=yw (G:=gv) (P:=bh) (fun _ _ _ _ _ _=>lT) (a:=row) (b:=many) (A:=rowP row many true 0) (B:=rowP row many true row) (C:=rowP row many true (row - 1)) (g:=fy row many true) (fun p k=>by
   have:=bC.1 k
   rw[l4,if_pos (by rfl),less1 0 2 0 _ p _ _ (by omega)]
   rfl) (fun p q k=>by
   have:=bC.1 (dE k).1
   have:=bC.1 (dE k).2
   rw[l4,if_neg (by show ¬((3:Int) == 2)=true; decide),less1 row 3 0 _ p q _ (by omega)]
   dsimp only[Option.bind_some]
   rw[dv (n:=row - 1) (by omega) (by omega)]
   have h2:=less2 (row - 1) (rowP row many true row p) q (by omega)
   rw[h2]
   rfl) (fun p _=>TK row many true p) (fun p q _=>Ru row many true p q) (Gr row many true) (f:=f) (by omega) f [] [] rfl hn (Nat.le_refl _)
 rw[Nk,nc]
 have h':bh f (f.length:Int) 0 row many []=some ((f.map (fy row many true),()),row,many,()):=h
 rw[h']
 rfl
end
end Go.Proofs.YtddiiceaindlhaaGreatDoor.Abs
set_option linter.unusedVariables false
set_option linter.unusedSimpArgs false
set_option linter.unusedSectionVars false
namespace Go.Proofs.YtddiiceaindlhaaGreatDoor.Abs
open Go
theorem u3 {n row many other:Int} {closed:Bool} (hn : -1000≤n∧n≤1000) (hr : -1000≤row∧row≤1000) (hm : -1000≤many∧many≤1000):eH n row many closed other=some ((fj row many closed other n,()),()):=by
 rw[O8,dv (n:=n+many) (by omega) (by omega),dv (n:=row+many) (by omega) (by omega),dv (n:=n - many) (by omega) (by omega)]
 unfold fj
 simp only[decide_eq_true_eq]
 by_cases h1:n < row
 ·simp only[if_pos h1]
 ·simp only[if_neg h1]
  cases closed with
  | false=>rfl
  | true =>
   simp only[Bool.not_true,Bool.false_eq_true,if_false,Bool.true_eq_false]
   by_cases h2:n < row+many
   ·simp only[if_pos h2]
   ·simp only[if_neg h2]
theorem sn:dc=some ((jC,()),()):=by
 rw[M8,Ch]
 rfl
theorem E5:(⟨#[]⟩:ByteArray).size≤9223372036854775807:=by decide
theorem P7 (p:aB):bu (nP p)=some ((ar p.1,()),()):=by
 rw[fK E5,R0]
theorem P8 (p q:aB):bu (nA p q)=some ((cc (p.1,q.1,()),()),()):=by
 rw[fK E5,R3]
theorem HC {row many:Int} {closed:Bool} (hr:1≤row∧row≤1000) (hm : -1000≤many∧many≤1000) {f:List aa} (hl:f.length≤1000000) :
  ∀(ys pre acc:List aa),f=pre++ys→(∀ x∈ys,bG x=true)→acc.length≤pre.length→bb f row many closed (pre.length:Int) acc=some ((acc++ys.map (fy row many closed),()),())
 | [],pre,acc,h,_,_=>by
  rw[yH,av (bO h)]
  simp
 | y :: ys,pre,acc,h,hy,ha=>by
  have hlen:f.length=pre.length+(ys.length+1):=by rw[h]; simp
  have ih:=fun z=>HC hr hm hl ys (pre++[y]) (acc++[z]) (aK h) (fun x hx=>hy x (List.mem_cons_of_mem _ hx)) (by simp; omega) (closed:=closed)
  rw[yH,aD (bP h),bv h,aX h (by omega)]
  have happ : ∀(z:aa) (k:List aa→Option ((List aa×Unit)×Unit)),app acc [z] 120 k=k (acc++[z]):=fun z k=>bo (by simp only[List.length_singleton]; omega)
  have hk : ∀(l:List Int) (k:List Int→Option ((List aa×Unit)×Unit)),l.length≤1000000→app [] l 8 k=k l:=fun l k hl=>bo (by simp only[List.length_nil]; omega)
  cases sj (hy y List.mem_cons_self) with
  | con v k0 k1 k2 =>
   rw[hk [] _ (by decide)]
   simp only[show((1:Int) == 2)=false from rfl,show((1:Int) == 3)=false from rfl,Bool.false_eq_true,if_false,Option.bind_some,happ,ih,List.append_assoc,List.singleton_append,List.map_cons]
   rw[Gr row many closed (nC v) (by show(1:Int)≠2; decide) (by show(1:Int)≠3; decide)]
  | cell p k =>
   have hb:=bC.1 k
   rw[hk [] _ (by decide)]
   simp only[show((2:Int) == 3)=false from rfl,Bool.false_eq_true,if_false,beq_self_eq_true,if_true]
   have e1:eH p.1.2.1 row many closed row=some ((fj row many closed row p.1.2.1,()),()):=u3 (by omega) (by omega) hm
   have e2 : ∀ z,bu (2,0,(0,0,(⟨#[]⟩:ByteArray),()),((p.1.1,z,()),p.2.1,p.2.2.1,()),((0,0,()),false,false,()),([]:List Int),())=some ((ar (p.1.1,z,()),()),()):=fun z=>P7 ((p.1.1,z,()),p.2.1,p.2.2.1,())
   simp only[e1,Option.bind_some,e2,sn,happ,ih,List.append_assoc,List.singleton_append,List.map_cons,R4]
   have hrp:(rowP row many closed row p).1=(p.1.1,fj row many closed row p.1.2.1,()):=rfl
   rw[hrp]
   cases closed with
   | false =>
    simp only[Bool.false_eq_true,if_false,false_and]
    cases ar (p.1.1,fj row many false row p.1.2.1,()) with
    | true=>simp only[Bool.not_true,Bool.false_eq_true,if_false,if_true]; rfl
    | false=>simp only[Bool.not_false,Bool.false_eq_true,if_false,if_true]
   | true =>
    simp only[if_true,true_and,eA,Option.bind_some]
    rw[dv (n:=row+many) (by omega) (by omega),dv (n:=row+many - 1) (by omega) (by omega)]
    by_cases kk:row≤p.1.2.1∧p.1.2.1 < row+many
    ·rw[if_pos (bc.2 (by omega)),if_pos kk]
    ·rw[if_neg (fun h=>kk (by have:=bc.1 h; omega)),if_neg kk]
     cases ar (p.1.1,fj row many true row p.1.2.1,()) with
     | true=>simp only[Bool.not_true,Bool.false_eq_true,if_false,if_true]; rfl
     | false=>simp only[Bool.not_false,Bool.false_eq_true,if_false,if_true]
  | area p q k =>
   have hb:=bC.1 (dE k).1
   have hc:=bC.1 (dE k).2
   rw[hk [] _ (by decide)]
   simp only[show((3:Int) == 2)=false from rfl,Bool.false_eq_true,if_false,beq_self_eq_true,if_true]
   have e1:eH p.1.2.1 row many closed row=some ((fj row many closed row p.1.2.1,()),()):=u3 (by omega) (by omega) hm
   have e3:eH q.1.2.1 row many closed (row - 1)=some ((fj row many closed (row - 1) q.1.2.1,()),()):=u3 (by omega) (by omega) hm
   have e2 : ∀ z z',bu (3,0,(0,0,(⟨#[]⟩:ByteArray),()),((p.1.1,z,()),p.2.1,p.2.2.1,()),((q.1.1,z',()),q.2.1,q.2.2.1,()),([]:List Int),())=some ((cc ((p.1.1,z,()),(q.1.1,z',()),()),()),()):=fun z z'=>P8 ((p.1.1,z,()),p.2.1,p.2.2.1,()) ((q.1.1,z',()),q.2.1,q.2.2.1,())
   rw[dv (n:=row - 1) (by omega) (by omega)]
   simp only[e1,e3,Option.bind_some,e2,sn,happ,ih,List.append_assoc,List.singleton_append,List.map_cons,Ru]
   have hrp:(rowP row many closed row p).1=(p.1.1,fj row many closed row p.1.2.1,()):=rfl
   have hrq:(rowP row many closed (row - 1) q).1=(q.1.1,fj row many closed (row - 1) q.1.2.1,()):=rfl
   rw[hrp,hrq]
   cases cc ((p.1.1,fj row many closed row p.1.2.1,()),(q.1.1,fj row many closed (row - 1) q.1.2.1,()),()) with
   | true=>simp only[Bool.not_true,Bool.false_eq_true,if_false,if_true]; rfl
   | false=>simp only[Bool.not_false,Bool.false_eq_true,if_false,if_true]
  | neg k =>
   rw[hk [k] _ (by simp)]
   simp only[show((4:Int) == 2)=false from rfl,show((4:Int) == 3)=false from rfl,Bool.false_eq_true,if_false,Option.bind_some,happ,ih,List.append_assoc,List.singleton_append,List.map_cons]
   rw[Gr row many closed (4,0,v0,p0,p0,[k],()) (by show(4:Int)≠2; decide) (by show(4:Int)≠3; decide)]
  | bin op k k' k0 k1 =>
   rw[hk [k,k'] _ (by simp)]
   simp only[show((5:Int) == 2)=false from rfl,show((5:Int) == 3)=false from rfl,Bool.false_eq_true,if_false,Option.bind_some,happ,ih,List.append_assoc,List.singleton_append,List.map_cons]
   rw[Gr row many closed (5,op,v0,p0,p0,[k,k'],()) (by show(5:Int)≠2; decide) (by show(5:Int)≠3; decide)]
  | call op ks k =>
   have:=Gn k
   rw[hk ks _ (by omega)]
   simp only[show((6:Int) == 2)=false from rfl,show((6:Int) == 3)=false from rfl,Bool.false_eq_true,if_false,Option.bind_some,happ,ih,List.append_assoc,List.singleton_append,List.map_cons]
   rw[Gr row many closed (6,op,v0,p0,p0,ks,()) (by show(6:Int)≠2; decide) (by show(6:Int)≠3; decide)]
theorem KA {c r:Int} (hc : -1000≤c∧c≤1000) (hr : -1000≤r∧r≤1000) {f:List aa} (hl:f.length≤1000000) :
  ∀(ys pre acc:List aa),f=pre++ys→(∀ x∈ys,bG x=true)→acc.length≤pre.length→ej f c r (pre.length:Int) acc=some ((acc++ys.map (jS c r),true,()),())
 | [],pre,acc,h,_,_=>by
  rw[wP,av (bO h)]
  simp
 | y :: ys,pre,acc,h,hy,ha=>by
  have hlen:f.length=pre.length+(ys.length+1):=by rw[h]; simp
  have ih:=fun z=>KA hc hr hl ys (pre++[y]) (acc++[z]) (aK h) (fun x hx=>hy x (List.mem_cons_of_mem _ hx)) (by simp; omega)
  rw[wP,aD (bP h),bv h,aX h (by omega)]
  have happ : ∀(z:aa) (k:List aa→Option ((List aa×(Bool×Unit))×Unit)),app acc [z] 120 k=k (acc++[z]):=fun z k=>bo (by simp only[List.length_singleton]; omega)
  have hk : ∀(l:List Int) (k:List Int→Option ((List aa×(Bool×Unit))×Unit)),l.length≤1000000→app [] l 8 k=k l:=fun l k hl=>bo (by simp only[List.length_nil]; omega)
  have hsmall : ∀(z:aa) (l:List Int) (o:Int),z=z:=fun _ _ _=>rfl
  cases sj (hy y List.mem_cons_self) with
  | con v k0 k1 k2 =>
   rw[hk [] _ (by decide)]
   have hv:v.2.2.1.size≤9223372036854775807:=je k0
   have e:bu (1,0,v,((0,0,()),false,false,()),((0,0,()),false,false,()),([]:List Int),())=some ((true,()),()):=by
    rw[fK hv,hy (nC v) List.mem_cons_self]
   simp only[show((1:Int) == 2)=false from rfl,show((1:Int) == 3)=false from rfl,Bool.false_eq_true,if_false,e,Bool.not_true,Option.bind_some,happ,ih,List.append_assoc,List.singleton_append,List.map_cons]
   rw[Kz c r (nC v) (by show(1:Int)≠2; decide) (by show(1:Int)≠3; decide)]
  | cell p k =>
   rw[hk [] _ (by decide)]
   have e2 : ∀ z,bu (2,0,(0,0,(⟨#[]⟩:ByteArray),()),z,((0,0,()),false,false,()),([]:List Int),())=some ((ar z.1,()),()):=P7
   simp only[show((2:Int) == 3)=false from rfl,Bool.false_eq_true,if_false,beq_self_eq_true,if_true,(xj k hc hr).2,e2,sn,Option.bind_some,happ,ih,List.append_assoc,List.singleton_append,List.map_cons,TI]
   cases ar (jg c r p).1 with
   | true=>simp only[Bool.not_true,Bool.false_eq_true,if_false,if_true]
   | false=>simp only[Bool.not_false,Bool.false_eq_true,if_false,if_true]
  | area p q k =>
   rw[hk [] _ (by decide)]
   have e2 : ∀ z z',bu (3,0,(0,0,(⟨#[]⟩:ByteArray),()),z,z',([]:List Int),())=some ((cc (z.1,z'.1,()),()),()):=P8
   simp only[show((3:Int) == 2)=false from rfl,Bool.false_eq_true,if_false,beq_self_eq_true,if_true,(xj (dE k).1 hc hr).2,(xj (dE k).2 hc hr).2,e2,sn,Option.bind_some,happ,ih,List.append_assoc,List.singleton_append,List.map_cons,TJ]
   cases cc ((jg c r p).1,(jg c r q).1,()) with
   | true=>simp only[Bool.not_true,Bool.false_eq_true,if_false,if_true]
   | false=>simp only[Bool.not_false,Bool.false_eq_true,if_false,if_true]
  | neg k =>
   rw[hk [k] _ (by simp)]
   have e:bu (4,0,v0,p0,p0,[k],())=some ((true,()),()):=by
    rw[fK E5,hy (4,0,v0,p0,p0,[k],()) List.mem_cons_self]
   simp only[show((4:Int) == 2)=false from rfl,show((4:Int) == 3)=false from rfl,Bool.false_eq_true,if_false,e,Bool.not_true,Option.bind_some,happ,ih,List.append_assoc,List.singleton_append,List.map_cons]
   rw[Kz c r (4,0,v0,p0,p0,[k],()) (by show(4:Int)≠2; decide) (by show(4:Int)≠3; decide)]
  | bin op k k' k0 k1 =>
   rw[hk [k,k'] _ (by simp)]
   have e:bu (5,op,v0,p0,p0,[k,k'],())=some ((true,()),()):=by
    rw[fK E5,hy (5,op,v0,p0,p0,[k,k'],()) List.mem_cons_self]
   simp only[show((5:Int) == 2)=false from rfl,show((5:Int) == 3)=false from rfl,Bool.false_eq_true,if_false,e,Bool.not_true,Option.bind_some,happ,ih,List.append_assoc,List.singleton_append,List.map_cons]
   rw[Kz c r (5,op,v0,p0,p0,[k,k'],()) (by show(5:Int)≠2; decide) (by show(5:Int)≠3; decide)]
  | call op ks k =>
   have:=Gn k
   rw[hk ks _ (by omega)]
   have e:bu (6,op,v0,p0,p0,ks,())=some ((true,()),()):=by
    rw[fK E5,hy (6,op,v0,p0,p0,ks,()) List.mem_cons_self]
   simp only[show((6:Int) == 2)=false from rfl,show((6:Int) == 3)=false from rfl,Bool.false_eq_true,if_false,e,Bool.not_true,Option.bind_some,happ,ih,List.append_assoc,List.singleton_append,List.map_cons]
   rw[Kz c r (6,op,v0,p0,p0,ks,()) (by show(6:Int)≠2; decide) (by show(6:Int)≠3; decide)]
section
variable {f:List aa} (hf:fh f=true)
include hf
theorem Rv {row many:Int} {closed:Bool} (hr:1≤row∧row≤1000) (hm : -1000≤many∧many≤1000):wy f row many closed=some ((f.map (fy row many closed),()),()):=by
 obtain⟨hl,hn⟩:=re hf
 rw[M9]
 exact HC hr hm (by omega) f [] [] rfl hn (Nat.le_refl _)
theorem Ly {c r:Int}:CL f c r=if bF c (-52) 52=true∧bF r (-99) 99=true then some ((f.map (jS c r),true,()),()) else some (([],false,()),()):=by
 obtain⟨hl,hn⟩:=re hf
 have hs:=Aw hf
 rw[K5,mU (by omega) hs.2.1 hs.2.2,hf]
 simp only[Bool.not_true,Bool.false_eq_true,if_false,Option.bind_some,eA]
 cases hc:bF c (-52) 52 with
 | false=>simp
 | true =>
  cases hr:bF r (-99) 99 with
  | false=>simp
  | true =>
   have h1:=bc.1 hc
   have h2:=bc.1 hr
   simp only[Bool.not_true,Bool.false_eq_true,if_false,and_self,if_true]
   exact KA (by omega) (by omega) (by omega) f [] [] rfl hn (Nat.le_refl _)
end
end Go.Proofs.YtddiiceaindlhaaGreatDoor.Abs
