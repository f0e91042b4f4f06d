/- Formulas that are right: both sides. -/
import Derived.Test.YtnodjiikdgmeaaaGreatDoorZM4
set_option linter.unusedVariables false
set_option linter.unusedSimpArgs false
set_option linter.unusedSectionVars false
namespace Go.Proofs.YtnodjiikdgmeaaaGreatDoor.Abs
open Go
def xD (f:List aa):Bool:=match fm f f.length ((f.length:Int) - 1) with
 | some (s,h)=>decide (s=0) && (!mD f ((f.length:Int) - 1) && decide ((h:Int)≤12))
 | none=>false
def fV (f:List aa):Bool:=cw (f.length:Int) 1 60 && xD f
theorem mm {f:List aa} (h:fV f=true) (i:Nat) (x:aa) (hx:f[i]? = some x):lK f i x:=by
 unfold fV xD at h
 simp only[Bool.and_eq_true] at h
 obtain⟨h1,h2⟩:=h
 have h1:=bA.1 h1
 cases hc:fm f f.length ((f.length:Int) - 1) with
 | none=>rw[hc] at h2; cases h2
 | some p =>
  obtain⟨s,d⟩:=p
  rw[hc] at h2
  simp only[Bool.and_eq_true,decide_eq_true_eq] at h2
  have hl:=(List.getElem?_eq_some_iff.1 hx).1
  obtain⟨y,hy,hs⟩:=(ir f _ _ _ _ hc).2.2 i (by omega) (by omega)
  rw[hx] at hy
  rw[Option.some.inj hy]
  exact hs
section
variable {f:List aa} (hl:f.length≤10000000) (hs : ∀ x∈f,x.2.2.1.2.2.1.size≤9223372036854775807) (hkl : ∀ x∈f,x.2.2.2.2.2.1.length≤10000000)
include hl hs hkl
theorem rU:sI f=some ((fV f,()),()):=by
 rw[IT]
 unfold fV
 simp only[iK,Option.bind_some]
 cases hb:cw (f.length:Int) 1 60 with
 | false=>rfl
 | true =>
  have hb:=bA.1 hb
  obtain⟨x,hx⟩ : ∃ y,f[((f.length:Int) - 1).toNat]? = some y:=⟨f[((f.length:Int) - 1).toNat]'(by omega),List.getElem?_eq_getElem _⟩
  have har:mD f ((f.length:Int) - 1)=decide (x.1=3):=by
   unfold mD
   rw[List.getD_eq_getElem?_getD,hx]
   rfl
  have hfr:=KL hl hs f.length ((f.length:Int) - 1) 0 (by omega) (by omega) (by omega) (by decide) (by decide) hkl
  simp only[if_true]
  rw[kR (by omega) (by omega),bP (by omega) hx,hfr]
  unfold xD
  rw[har]
  cases hc:fm f f.length ((f.length:Int) - 1) with
  | none=>by_cases h3:x.1=3 <;> simp[h3,na]
  | some p =>
   obtain⟨s,h⟩:=p
   have hp:=(ir f _ _ _ _ hc).1
   by_cases h3:x.1=3
   ·simp[h3]
   ·by_cases h4:(h:Int)≤12
    ·simp[h3,na,h4,A2]
    ·simp[h3,na,h4]
theorem vC {x:aa} {i:Nat} (hi:f[i]? = some x) (hil:i≤10000000) : ∀(ys pre:List Int),x.2.2.2.2.2.1=pre++ys →
  kg f (i:Int) (pre.length:Int)=if(ys.all fun k=>cw k 0 ((i:Int) - 1) && (!mD f k || decide (x.1=6)))=true then ep f ((i+1:Nat):Int) else some ((false,()),())
 | [],pre,he=>by
  rw[ug,bP (nn _) (by simpa using hi),aw (bi he),kR (by omega) (by omega)]
  simp
 | y :: ys,pre,he=>by
  have hm:x∈f:=List.mem_of_getElem? hi
  have:=hkl x hm
  rw[ug,bP (nn _) (by simpa using hi),az (bq he),bP (nn _) (by simpa using hi),bk he,lJ,Option.bind_some,kR (n:=(i:Int) - 1) (by omega) (by omega),aL he (by omega)]
  have ih:=vC hi hil ys _ (av he)
  have hlt:=(List.getElem?_eq_some_iff.1 hi).1
  cases hy:cw y 0 ((i:Int) - 1) with
  | false=>simp[hy]
  | true =>
   have hy2:=bA.1 hy
   obtain⟨z,hz⟩ : ∃ z,f[y.toNat]? = some z:=⟨f[y.toNat]'(by omega),List.getElem?_eq_getElem _⟩
   have har:mD f y=decide (z.1=3):=by
    unfold mD
    rw[List.getD_eq_getElem?_getD,hz]
    rfl
   simp only[Bool.not_true,Bool.false_eq_true,if_false]
   rw[bP (by omega) hz]
   by_cases h3:z.1=3
   ·rw[if_pos (by simp[h3]),bP (nn _) (by simpa using hi)]
    by_cases h6:x.1=6
    ·rw[if_neg (by simp[h6]),ih]
     simp[hy,har,h6]
    ·rw[if_pos (by simp[h6])]
     simp[hy,har,h3,h6]
   ·rw[if_neg (by simp[h3]),ih]
    simp[hy,har,h3]
def mn (f:List aa) (i:Nat):Bool:=match f[i]? with
 | some x=>du x && x.2.2.2.2.2.1.all fun k=>cw k 0 ((i:Int) - 1) && (!mD f k || decide (x.1=6))
 | none=>true
omit hl hs hkl in
theorem CP {i:Nat} {x:aa} (hx:f[i]? = some x):mn f i=true↔lK f i x:=by
 unfold mn lK
 rw[hx]
 simp only[Bool.and_eq_true,List.all_eq_true,bA,Bool.or_eq_true,Bool.not_eq_true',decide_eq_true_eq]
 constructor
 ·rintro⟨h1,h2⟩
  refine⟨h1,fun k hk => ?_⟩
  obtain⟨⟨a,b⟩,c⟩:=h2 k hk
  refine⟨a,by omega,fun ha => ?_⟩
  rcases c with c | c
  ·rw[c] at ha
   cases ha
  ·exact c
 ·rintro⟨h1,h2⟩
  refine⟨h1,fun k hk => ?_⟩
  obtain⟨a,b,c⟩:=h2 k hk
  refine⟨⟨a,by omega⟩,?_⟩
  cases ha:mD f k with
  | true=>exact .inr (c ha)
  | false=>exact .inl rfl
theorem Fv (hne:1≤f.length) (A : ∀(i:Nat) (x:aa),f[i]? = some x→lK f i x):ep f (f.length:Int)=some ((xD f,()),()):=by
 obtain⟨x,hx⟩ : ∃ y,f[((f.length:Int) - 1).toNat]? = some y:=⟨f[((f.length:Int) - 1).toNat]'(by omega),List.getElem?_eq_getElem _⟩
 have har:mD f ((f.length:Int) - 1)=decide (x.1=3):=by
  unfold mD
  rw[List.getD_eq_getElem?_getD,hx]
  rfl
 rw[ua,aw (Int.lt_irrefl _),kR (by omega) (by omega),Fu hl hs A hkl f.length _ (by omega) (by omega) (by omega),Option.bind_some,bP (by omega) hx]
 unfold xD
 rw[har]
 cases hc:fm f f.length ((f.length:Int) - 1) with
 | none=>rfl
 | some p =>
  obtain⟨s,h⟩:=p
  have er:GI (some (s,h))=s:=rfl
  simp only[er]
  by_cases h0:s=0
  ·by_cases h3:x.1=3
   ·simp[h0,h3]
   ·rw[if_pos (by simp[h0]),if_pos (by simp[h3]),(za hl hs hkl _ _ _ _ hc hl).2]
    simp[h0,h3]
  ·rw[if_neg (by simp[h0])]
   simp[h0]
theorem Fw {i:Nat} (hi:i < f.length):ep f (i:Int)=if mn f i=true then ep f ((i+1:Nat):Int) else some ((false,()),()):=by
 obtain⟨x,hx⟩ : ∃ y,f[i]? = some y:=⟨f[i],List.getElem?_eq_getElem _⟩
 have hm:x∈f:=List.mem_of_getElem? hx
 rw[ua,az (by omega),bP (nn _) (by simpa using hx),A6 (hs x hm),Option.bind_some]
 have es:mn f i=(du x && x.2.2.2.2.2.1.all fun k=>cw k 0 ((i:Int) - 1) && (!mD f k || decide (x.1=6))):=by
  unfold mn
  rw[hx]
 rw[es]
 cases ho:du x with
 | false=>simp
 | true =>
  have:=vC hl hs hkl hx (by omega) x.2.2.2.2.2.1 [] rfl
  simp only[Bool.not_true,Bool.false_eq_true,if_false,Bool.true_and]
  exact this
open Classical in
theorem uj : ∀(n i:Nat),i+n=f.length→ep f (i:Int)=if(∀ j,i≤j→j < f.length→mn f j=true) then ep f (f.length:Int) else some ((false,()),())
 | 0,i,h=>by
  have:i=f.length:=by omega
  rw[this,if_pos (fun j h1 h2=>by omega)]
 | n+1,i,h=>by
  rw[Fw hl hs hkl (by omega),uj n (i+1) (by omega)]
  by_cases h1:mn f i=true
  ·rw[if_pos h1]
   by_cases h2 : ∀ j,i+1≤j→j < f.length→mn f j=true
   ·rw[if_pos h2,if_pos (fun j a b=>by
     by_cases hj:j=i
     ·rw[hj]; exact h1
     ·exact h2 j (by omega) b)]
   ·rw[if_neg h2,if_neg (fun h3=>h2 fun j a b=>h3 j (by omega) b)]
  ·rw[if_neg h1,if_neg (fun h3=>h1 (h3 i (Nat.le_refl _) (by omega)))]
theorem nc:ma f=some ((fV f,()),()):=by
 rw[IE]
 by_cases h1:(f.length:Int) < 1
 ·rw[az h1]
  have:cw (f.length:Int) 1 60=false:=by simp[cw]; omega
  simp[fV,this]
 ·rw[aw h1]
  by_cases h2:(f.length:Int) > 60
  ·rw[az h2]
   have:cw (f.length:Int) 1 60=false:=by simp[cw]; omega
   simp[fV,this]
  ·have hb:cw (f.length:Int) 1 60=true:=bA.2 (by omega)
   rw[aw h2,show(0:Int)=((0:Nat):Int) from rfl,uj hl hs hkl f.length 0 (by omega)]
   by_cases A : ∀ j,0≤j→j < f.length→mn f j=true
   ·rw[if_pos A,Fv hl hs hkl (by omega) fun i x hx=>(CP hx).1 (A i (Nat.zero_le _) (List.getElem?_eq_some_iff.1 hx).1)]
    simp[fV,hb]
   ·rw[if_neg A]
    have:fV f=false:=by
     cases ho:fV f with
     | false=>rfl
     | true =>
      refine absurd (fun j _ hj => ?_) A
      have hx:f[j]? = some f[j]:=List.getElem?_eq_getElem _
      exact(CP hx).2 (mm ho j _ hx)
    rw[this]
end
abbrev ak:=List UInt8
abbrev lb (s:ByteArray):ak:=s.data.toList
abbrev ba (l:ak):ByteArray:=⟨l.toArray⟩
theorem eu (l:ak):lb (ba l)=l:=by simp
theorem hY (s:ByteArray):ba (lb s)=s:=by cases s; simp
theorem aN (l:ak):(ba l).size=l.length:=by
 show(ba l).data.size=_
 simp
theorem qi (s:ByteArray):(lb s).length=s.size:=by
 rw[Array.length_toList]
 rfl
theorem Fx {a b:ak} (h:ba a=ba b):a=b:=by
 rw[←eu a,h,eu]
theorem Wi {a b:ak}:(ba a=ba b)=(a=b):=propext ⟨Fx,fun h=>by rw[h]⟩
theorem PD (l:ak) (i j:Nat):(ba l).extract i j=ba ((l.take j).drop i):=by
 apply xB
 simp[ByteArray.data_extract,List.extract_eq_take_drop,List.drop_take]
theorem rF (a b:ak):ba a++ba b=ba (a++b):=by
 apply xB
 simp
theorem dD {a b:ak}:(ByteArray.toList (ba a) == ByteArray.toList (ba b))=decide (a=b):=by
 rw[Ct,Bool.eq_iff_iff,decide_eq_true_eq,decide_eq_true_eq,Wi]
theorem VJ (l:ak):mr (ba l)=l.map fun b=>(b.toNat:Int):=by simp[mr]
theorem kk {β:Type} {l pre ys:ak} {y:UInt8} {f:Int→Option β} (h:l=pre++y :: ys):dZ (ba l) (pre.length:Int) f=f (y.toNat:Int):=by
 have:=AQ (β:=β) (s:=ba l) (pre:=pre.map fun b=>(b.toNat:Int)) (ys:=ys.map fun b=>(b.toNat:Int)) (y:=(y.toNat:Int)) (f:=f) (by rw[VJ,h]; simp)
 rw[List.length_map] at this
 exact this
theorem rG {β:Type} {y:UInt8} {ys:ak} {f:Int→Option β}:dZ (ba (y :: ys)) 0 f=f (y.toNat:Int):=kk (pre:=[]) rfl
theorem Fy {β:Type} {l:ak} {n:Nat} {f:ByteArray→Option β} (h:n≤l.length):Cs (ba l) (n:Int) f=f (ba (l.take n)):=by
 rw[VD (nn _) (by rw[aN]; omega),PD]
 simp
theorem fN {β:Type} {l:ak} {n:Nat} {f:ByteArray→Option β} (h:n≤l.length):iw (ba l) (n:Int) f=f (ba (l.drop n)):=by
 rw[VE (nn _) (by rw[aN]; omega),PD,aN]
 simp
theorem xE {β:Type} {l:ak} {i j:Nat} {f:ByteArray→Option β} (h:i≤j) (hj:j≤l.length):uL (ba l) (i:Int) (j:Int) f=f (ba ((l.take j).drop i)):=by
 rw[VF (nn _) (by omega) (by rw[aN]; omega),PD]
 simp
theorem br {β:Type} {a b:ak} {f:ByteArray→Option β} (h:a.length+b.length≤9223372036854775807):cats (ba a) (ba b) f=f (ba (a++b)):=by
 rw[ip (by rw[aN,aN]; exact h),rF]
theorem v8 (s p:ak) (hs:s.length≤9223372036854775807):eI (ba s) (ba p)=some ((p.isPrefixOf s,()),()):=by
 rw[tW,aN,aN]
 by_cases h:p.length≤s.length
 ·rw[az (by omega),Fy h,dD]
  congr 3
  rw[Bool.eq_iff_iff,decide_eq_true_eq,List.isPrefixOf_iff_prefix,List.prefix_iff_eq_take]
  exact eq_comm
 ·rw[aw (by omega)]
  congr 3
  symm
  rw[Bool.eq_false_iff]
  intro hp
  exact h (List.isPrefixOf_iff_prefix.1 hp).length_le
theorem rH (s p:ak) (hs:s.length≤9223372036854775807):dR (ba s) (ba p)=some ((p.isPrefixOf s,()),()):=by
 rw[yJ,v8 s p hs]
 rfl
theorem rI (s p:ak) (hs:s.length≤9223372036854775807):cc (ba s) (ba p)=some ((ba (if p.isPrefixOf s=true then s.drop p.length else s),p.isPrefixOf s,()),()):=by
 rw[yI,tX,v8 s p hs]
 simp only[Option.bind_some]
 cases hp:p.isPrefixOf s with
 | false=>rfl
 | true =>
  have:=(List.isPrefixOf_iff_prefix.1 hp).length_le
  simp only[Bool.not_true,Bool.false_eq_true,if_false,if_true,aN]
  rw[fN this]
  rfl
theorem wa (s c:ak) (hc:tx (ba c)=true):gT (ba s) (ba c)=some ((ba (s.dropWhile (c.contains ·)),()),()):=by
 rw[zS]
 show(if tx (ba c)=true then some (((⟨(Lib.trimLeftS (lb (ba s)) (lb (ba c))).toArray⟩:ByteArray),()),()) else none)=_
 rw[if_pos hc,eu,eu]
 rfl
theorem A9 {α:Type} (p:α→Bool) (l:List α):l.take (l.length - (l.dropWhile p).length)=l.takeWhile p∧l.drop (l.length - (l.dropWhile p).length)=l.dropWhile p∧(l.dropWhile p).length≤l.length:=by
 have h:=List.takeWhile_append_dropWhile (p:=p) (l:=l)
 have hl:(l.takeWhile p).length+(l.dropWhile p).length=l.length:=by rw[←List.length_append,h]
 have e:l.length - (l.dropWhile p).length=(l.takeWhile p).length:=by omega
 refine⟨?_,?_,by omega⟩
 ·rw[e]
  have:=List.take_left' (l₁:=l.takeWhile p) (l₂:=l.dropWhile p) rfl
  rw[h] at this
  exact this
 ·rw[e]
  have:=List.drop_left' (l₁:=l.takeWhile p) (l₂:=l.dropWhile p) rfl
  rw[h] at this
  exact this
theorem fW (c:UInt8) (l:ak) (a:UInt8):([a]:ak).isPrefixOf (c :: l)=decide (c=a):=by
 show(a == c && ([]:ak).isPrefixOf l)=_
 rw[show([]:ak).isPrefixOf l=true by cases l <;> rfl,Bool.and_true,Bool.eq_iff_iff,beq_iff_eq,decide_eq_true_eq]
 exact eq_comm
theorem DL (c:UInt8) (t:ak):([c]:ak).isPrefixOf t=decide (t.head? = some c):=by
 cases t with
 | nil=>rfl
 | cons y t=>rw[fW]; simp
theorem DM (y:UInt8) (t:ak) (a c:UInt8):([a,c]:ak).isPrefixOf (y :: t)=(decide (y=a) && decide (t.head? = some c)):=by
 show(a == y && ([c]:ak).isPrefixOf t)=_
 rw[DL]
 congr 1
 rw[Bool.eq_iff_iff,beq_iff_eq,decide_eq_true_eq]
 exact eq_comm
theorem GJ (y c:UInt8) {n:Int} (hn:(c.toNat:Int)=n):((y.toNat:Int) == n)=decide (y=c):=by
 rw[Bool.eq_iff_iff,beq_iff_eq,decide_eq_true_eq,←hn]
 constructor
 ·intro e
  apply UInt8.toNat_inj.1
  omega
 ·intro e
  rw[e]
theorem DN {p:UInt8→Prop} [DecidablePred p] (h : ∀ n:Fin 256,p (UInt8.ofNat n.val)) (c:UInt8):p c:=by
 have:=h ⟨c.toNat,c.toNat_lt⟩
 simpa using this
def fg (c:UInt8):Bool:=decide (65≤c.toNat) && decide (c.toNat≤90)
def dE (c:UInt8):Bool:=decide (48≤c.toNat) && decide (c.toNat≤57)
def bm (a:Nat) (l:ak):Nat:=l.foldl (fun a c=>a*10+(c.toNat - 48)) a
theorem Ba (a:Nat) (l:ak) (c:UInt8):bm a (l++[c])=bm a l*10+(c.toNat - 48):=by simp[bm]
theorem Fz {u:Nat} (h:u < 10):Lib.decDigits u=[UInt8.ofNat (48+u)]:=Lib.decDigits_one h
theorem KM {u:Nat} (h : ¬u < 10):Lib.decDigits u=Lib.decDigits (u / 10)++[UInt8.ofNat (48+u % 10)]:=by
 rw[Lib.decDigits,dif_neg h]
theorem PE {x:Nat} (h:x < 10):(UInt8.ofNat (48+x)).toNat=48+x:=by
 rw[UInt8.toNat_ofNat']
 omega
theorem RC {m x:ak} (h:m≠[]):(m++x).head? = m.head? := by
 cases m with
 | nil=>exact absurd rfl h
 | cons a m=>rfl
def jy (l:ak):Bool:=l.all dE && decide (1≤l.length) && (decide (l.length=1) || !decide (l.head? = some 48))
theorem KN : ∀(n u:Nat),u≤n→bm 0 (Lib.decDigits u)=u∧jy (Lib.decDigits u)=true∧(10≤u→2≤(Lib.decDigits u).length)∧(1≤u→(Lib.decDigits u).head? ≠ some 48)
 | n,u,hn=>by
  by_cases h:u < 10
  ·rw[Fz h]
   have e:=PE h
   refine⟨by simp[bm]; omega,?_,fun h2=>by omega,fun h1 h2 => ?_⟩
   ·simp only[jy,dE,List.all_cons,List.all_nil,e]
    simp
    omega
   ·simp only[List.head?_cons,Option.some.injEq] at h2
    rw[h2] at e
    have:(48:UInt8).toNat=48:=rfl
    omega
  ·cases n with
   | zero=>omega
   | succ n =>
    obtain⟨h1,h2,h3,h4⟩:=KN n (u / 10) (by omega)
    rw[KM h,Ba,h1,PE (Nat.mod_lt _ (by decide))]
    have h4:=h4 (by omega)
    simp only[jy,Bool.and_eq_true,decide_eq_true_eq] at h2
    obtain⟨⟨k1,k2⟩,k3⟩:=h2
    have hne:Lib.decDigits (u / 10)≠[]:=by
     intro e
     rw[e] at k2
     simp at k2
    have hh:(Lib.decDigits (u / 10)++[UInt8.ofNat (48+u % 10)]).head? ≠ some 48:=by
     rw[RC hne]
     exact h4
    refine⟨by omega,?_,fun _=>by rw[List.length_append,List.length_singleton]; omega,fun _=>hh⟩
    simp only[jy,List.all_append,k1,List.all_cons,List.all_nil,dE,PE (Nat.mod_lt u (show 0 < 10 by decide)),Bool.and_eq_true,Bool.or_eq_true,decide_eq_true_eq]
    refine⟨⟨by simp; omega,by simp⟩,.inr (by simpa using hh)⟩
theorem uk (u:Nat):bm 0 (Lib.decDigits u)=u:=(KN u u (Nat.le_refl _)).1
theorem DP (u:Nat):jy (Lib.decDigits u)=true:=(KN u u (Nat.le_refl _)).2.1
theorem NT {c:UInt8} (h:dE c=true):UInt8.ofNat (48+(c.toNat - 48))=c:=by
 simp only[dE,Bool.and_eq_true,decide_eq_true_eq] at h
 have:48+(c.toNat - 48)=c.toNat:=by omega
 rw[this]
 simp
theorem NU : ∀(l:ak),jy l=true→Lib.decDigits (bm 0 l)=l∧(l.head? ≠ some 48→1≤bm 0 l):=by
 intro l
 induction hn:l.length using Nat.strongRecOn generalizing l with
 | ind n ih =>
  intro h
  rcases List.eq_nil_or_concat l with rfl | ⟨m,c,rfl⟩
  ·simp[jy] at h
  ·rw[List.concat_eq_append] at *
   simp only[jy,Bool.and_eq_true,Bool.or_eq_true,decide_eq_true_eq,List.all_append,List.all_cons,List.all_nil,Bool.and_true] at h
   obtain⟨⟨⟨k1,k0⟩,k2⟩,k3⟩:=h
   have kd:48≤c.toNat∧c.toNat≤57:=by simpa[dE] using k0
   rw[Ba]
   by_cases hm:m=[]
   ·subst hm
    have e:bm 0 []*10+(c.toNat - 48)=c.toNat - 48:=by simp[bm]
    rw[e,Fz (by omega),NT k0]
    refine⟨rfl,fun hh => ?_⟩
    have:c.toNat≠48:=by
     intro e
     apply hh
     simp only[List.nil_append,List.head?_cons]
     congr 1
     exact UInt8.toNat_inj.1 e
    omega
   ·have hm1:1≤m.length:=List.length_pos_iff.2 hm
    have hh:(m++[c]).head? = m.head? := RC hm
    have k4:m.head? ≠ some 48:=by
     rcases k3 with k3 | k3
     ·rw[List.length_append,List.length_singleton] at k3
      omega
     ·rw[hh] at k3
      simpa using k3
    obtain⟨i1,i2⟩:=ih m.length (by rw[←hn,List.length_append,List.length_singleton]; omega) m rfl (by
     simp only[jy,Bool.and_eq_true,Bool.or_eq_true,decide_eq_true_eq]
     exact⟨⟨k1,hm1⟩,.inr (by simpa using k4)⟩)
    have i2:=i2 k4
    refine⟨?_,fun _=>by omega⟩
    rw[KM (by omega)]
    have e1:(bm 0 m*10+(c.toNat - 48)) / 10=bm 0 m:=by omega
    have e2:(bm 0 m*10+(c.toNat - 48)) % 10=c.toNat - 48:=by omega
    rw[e1,e2,i1,NT k0]
theorem qj (u:Nat):gi (u:Int)=ba (Lib.decDigits u):=n7 u
theorem B4 : ∀(l:ak) (a:Nat),l.all dE=true→bm a l < (a+1)*10 ^ l.length
 | [],a,_=>by simp[bm]
 | c :: l,a,h=>by
  simp only[List.all_cons,Bool.and_eq_true] at h
  have kd:48≤c.toNat∧c.toNat≤57:=by simpa[dE] using h.1
  have:=B4 l (a*10+(c.toNat - 48)) h.2
  show bm (a*10+(c.toNat - 48)) l < _
  refine Nat.lt_of_lt_of_le this ?_
  rw[List.length_cons,Nat.pow_succ]
  have:a*10+(c.toNat - 48)+1≤(a+1)*10:=by omega
  calc (a*10+(c.toNat - 48)+1)*10 ^ l.length≤((a+1)*10)*10 ^ l.length:=Nat.mul_le_mul_right _ this
   _=(a+1)*(10 ^ l.length*10):=by rw[Nat.mul_assoc,Nat.mul_comm 10]
inductive dH {α:Type} (L:α→List α):α→α→Prop
 | one {i j:α} (h:j∈L i):dH L i j
 | more {i j k:α} (h:dH L i j) (m:k∈L j):dH L i k
theorem dH.trans {α:Type} {L:α→List α} {i j k:α} (h:dH L i j) (m:dH L j k):dH L i k:=by
 induction m with
 | one e=>exact .more h e
 | more _ e ih=>exact .more ih e
theorem dH.head {α:Type} {L:α→List α} {i j k:α} (h:j∈L i) (m:dH L j k):dH L i k:=dH.trans (.one h) m
theorem dH.inN {α:Type} {L:α→List α} {N:List α} (hN : ∀ i,∀ k∈L i,k∈N) {i j:α} (h:dH L i j):j∈N:=by
 cases h with
 | one e=>exact hN _ _ e
 | more _ e=>exact hN _ _ e
theorem dH.closed {α:Type} {L:α→List α} {Q:α→Prop} {i:α} (h0 : ∀ k∈L i,Q k) (hc : ∀ j,Q j → ∀ k∈L j,Q k) {j:α} (h:dH L i j):Q j:=by
 induction h with
 | one e=>exact h0 _ e
 | more _ e ih=>exact hc _ ih _ e
section
variable {α:Type} {L:α→List α} {N:List α}
open Classical in
noncomputable def wb (L:α→List α) (N:List α) (i:α):Nat:=(N.filter fun j=>decide (dH L i j)).length
open Classical in
theorem KO (hN : ∀ i,∀ k∈L i,k∈N) {i k:α} (hk:k∈L i) (hc : ¬dH L k k):wb L N k < wb L N i:=by
 unfold wb
 refine uI (fun y _ hy => ?_) ⟨k,hN i k hk,decide_eq_true (.one hk),decide_eq_false hc⟩
 exact decide_eq_true (dH.head hk (of_decide_eq_true hy))
theorem TB (hN : ∀ i,∀ k∈L i,k∈N) {l:List α} (hl:l≠[]) (hc : ∀ i∈l,¬dH L i i) : ∃ i∈l,∀ k∈L i,k ∉ l:=by
 have key : ∀(n:Nat) (i:α),i∈l→wb L N i≤n → ∃ i∈l,∀ k∈L i,k ∉ l:=by
  intro n
  induction n with
  | zero =>
   intro i hi hn
   refine⟨i,hi,fun k hk hkl => ?_⟩
   have:=KO hN hk (hc k hkl)
   omega
  | succ n ih =>
   intro i hi hn
   by_cases h : ∀ k∈L i,k ∉ l
   ·exact⟨i,hi,h⟩
   ·have : ∃ k,k∈L i∧k∈l:=by
     refine Classical.byContradiction fun hh=>h fun k hk hkl=>hh ⟨k,hk,hkl⟩
    obtain⟨k,hk,hkl⟩:=this
    have:=KO hN hk (hc k hkl)
    exact ih k hkl (by omega)
 obtain⟨i,hi⟩:=List.exists_mem_of_ne_nil l hl
 exact key _ i hi (Nat.le_refl _)
end
def fD (a b:al):Bool:=decide (a.2.1 < b.2.1) || (decide (a.2.1=b.2.1) && decide (a.1 < b.1))
def B5 (a b:al):Int:=if jx a.2.1 b.2.1=0 then jx a.1 b.1 else jx a.2.1 b.2.1
theorem Bb (a b:al):qc a b=some ((fD a b,()),()):=by
 rw[CJ]
 unfold fD
 by_cases h1:a.2.1 < b.2.1
 ·simp[h1]
 ·by_cases h2:a.2.1=b.2.1 <;> simp[h1,h2]
theorem DQ (a b:al):lp a b=some ((B5 a b,()),()):=by
 rw[vg]
 simp only[vA,Option.bind_some]
 rw[DJ (by simp)]
 unfold B5
 by_cases h1:jx a.2.1 b.2.1=0
 ·by_cases h2:jx a.1 b.1=0 <;> simp[List.find?,h1,h2]
 ·simp[List.find?,h1]
theorem UU {a b:al}:B5 a b < 0↔fD a b=true:=by
 unfold B5 fD jx
 simp only[Bool.or_eq_true,Bool.and_eq_true,decide_eq_true_eq]
 by_cases h1:a.2.1 < b.2.1
 ·simp[h1]
 ·by_cases h2:b.2.1 < a.2.1
  ·simp[h1,h2]
   omega
  ·have h3:a.2.1=b.2.1:=by omega
   by_cases h4:a.1 < b.1
   ·simp[h3,h4]
   ·by_cases h5:b.1 < a.1 <;> simp[h3,h4,h5]
theorem NV {a b:al}:(B5 a b≥0)↔fD a b=false:=by
 rw[ge_iff_le,←Int.not_lt,UU]
 simp
theorem KP {a b c:al} (h:fD a b=true) (k:fD b c=true):fD a c=true:=by
 simp only[fD,Bool.or_eq_true,Bool.and_eq_true,decide_eq_true_eq] at *
 omega
def py:Option al→List al→Bool
 | _,[]=>true
 | none,b :: l=>py (some b) l
 | some a,b :: l=>fD a b && py (some b) l
theorem Bc {o:Option al} {b:al} {l:List al}:py o (b :: l)=((match o with | some a=>fD a b | none=>true) && py (some b) l):=by
 cases o <;> simp[py]
theorem NW : ∀ {l:List al} {a:al},py (some a) l=true→(∀ b∈l,fD a b=true)∧l.Pairwise fun a b=>fD a b=true
 | [],a,_=>⟨fun b hb=>(by cases hb),List.Pairwise.nil⟩
 | b :: l,a,h=>by
  simp only[py,Bool.and_eq_true] at h
  obtain⟨h1,h2⟩:=NW h.2
  refine⟨fun c hc => ?_,List.pairwise_cons.2 ⟨h1,h2⟩⟩
  rcases List.mem_cons.1 hc with rfl | hc
  ·exact h.1
  ·exact KP h.1 (h1 c hc)
theorem RD {l:List al} (h:py none l=true):l.Pairwise fun a b=>fD a b=true:=by
 cases l with
 | nil=>exact List.Pairwise.nil
 | cons a l =>
  obtain⟨h1,h2⟩:=NW (l:=l) (a:=a) h
  exact List.pairwise_cons.2 ⟨h1,h2⟩
def g8 (l:List ac):Bool:=decide ((l.length:Int)≤120) && ((l.all fun c=>ca c.1 && an c.2.1) && py none (l.map (·.1)))
theorem NX {α:Type} {pre:List α} (h:pre≠[]) : ∃ q p,pre=q++[p]:=⟨pre.dropLast,pre.getLast h,(List.dropLast_concat_getLast h).symm⟩
section
variable {xs:List ac} (hl:xs.length≤10000000) (hs : ∀ c∈xs,c.2.1.2.2.1.size≤9223372036854775807)
include hl hs
theorem xF : ∀(ys pre:List ac),xs=pre++ys→lA xs (pre.length:Int)=some (((ys.all fun c=>ca c.1 && an c.2.1) && py (pre.getLast?.map (·.1)) (ys.map (·.1)),()),())
 | [],pre,he=>by
  rw[vk,aw (bi he)]
  simp[py]
 | y :: ys,pre,he=>by
  have ih:=xF ys _ (av he)
  have hy:=hs y (by rw[he]; simp)
  rw[vk,az (bq he)]
  simp only[bk he,n6,eP hy,Option.bind_some,aL he (by omega),ih]
  simp only[List.all_cons,List.map_cons,Bc,List.getLast?_append,List.getLast?_singleton,Option.some_or,Option.map_some]
  cases ca y.1 with
  | false=>simp
  | true =>
   cases an y.2.1 with
   | false=>simp
   | true =>
    by_cases hp:pre=[]
    ·subst hp
     simp
    ·obtain⟨q,p,rfl⟩:=NX hp
     have hq:xs=q++p :: (y :: ys):=by rw[he]; simp
     have hw:(((q++[p]).length:Nat):Int) - 1=(q.length:Int):=by simp
     have h0:((q++[p]).length:Int) > 0:=by rw[List.length_append,List.length_singleton]; omega
     simp only[hw,decide_eq_true h0,if_true,Bool.not_true,Bool.false_eq_true,if_false]
     rw[kR (by omega) (by have:=bq hq; omega),bk hq,Bb,Option.bind_some]
     simp only[List.getLast?_append,List.getLast?_singleton,Option.some_or,Option.map_some,Bool.true_and]
     cases fD p.1 y.1 <;> simp
theorem Bd:u2 xs=some ((g8 xs,()),()):=by
 rw[Ks]
 unfold g8
 by_cases h:(xs.length:Int) > 120
 ·rw[az h,decide_eq_false (by omega)]
  rfl
 ·rw[aw h,decide_eq_true (by omega)]
  have:=xF hl hs xs [] rfl
  simpa using this
theorem xG : ∀(ys pre:List ac),xs=pre++ys→lE xs xs (xs.length:Int) (pre.length:Int)=some ((((ys.all fun c=>ca c.1 && an c.2.1) && py (pre.getLast?.map (·.1)) (ys.map (·.1))) && decide ((xs.length:Int)≤120),()),())
 | [],pre,he=>by
  rw[vq,aw (bi he)]
  simp[py]
 | y :: ys,pre,he=>by
  have ih:=xG ys _ (av he)
  have hy:=hs y (by rw[he]; simp)
  rw[vq,az (bq he)]
  simp only[bk he,rC,ef hy,Option.bind_some,aL he (by omega),ih]
  simp only[List.all_cons,List.map_cons,Bc,List.getLast?_append,List.getLast?_singleton,Option.some_or,Option.map_some]
  cases ca y.1 with
  | false=>simp
  | true =>
   by_cases hp:pre=[]
   ·subst hp
    cases an y.2.1 <;> simp
   ·obtain⟨q,p,rfl⟩:=NX hp
    have hq:xs=q++p :: (y :: ys):=by rw[he]; simp
    have hw:(((q++[p]).length:Nat):Int) - 1=(q.length:Int):=by simp
    have h0:((q++[p]).length:Int) > 0:=by rw[List.length_append,List.length_singleton]; omega
    simp only[hw,decide_eq_true h0,if_true,Bool.not_true,Bool.false_eq_true,if_false]
    rw[kR (by omega) (by have:=bq hq; omega),bk hq,DQ,Option.bind_some]
    simp only[List.getLast?_append,List.getLast?_singleton,Option.some_or,Option.map_some,Bool.true_and]
    cases ha:fD p.1 y.1 with
    | true =>
     have : ¬(B5 p.1 y.1≥0):=by rw[NV,ha]; simp
     rw[aw this]
     cases an y.2.1 <;> simp
    | false =>
     rw[az (NV.2 ha)]
     cases an y.2.1 <;> simp
theorem KQ:AP xs=some ((g8 xs,()),()):=by
 rw[KF]
 unfold g8
 have:=xG hl hs xs [] rfl
 rw[Bool.and_comm]
 simpa using this
end
theorem PF {a b:al}:(bN ao a b=true)=(a=b):=propext (qg rfl)
def dN:List ac→al→ab
 | [],_=>v0
 | c :: l,r=>if c.1=r then c.2.1 else dN l r
section
variable {xs:List ac} (hl:xs.length≤10000000)
include hl
theorem FA {r:al} {a b:Int} {s:ByteArray} : ∀(ys pre:List ac),xs=pre++ys→yD xs (pre.length:Int) r.1 r.2.1 a b s=some ((dN ys r,()),())
 | [],pre,he=>by
  rw[CL,aw (bi he)]
  rfl
 | y :: ys,pre,he=>by
  rw[CL,az (bq he),bk he,bk he,aL he (by omega),FA ys _ (av he)]
  show(if bN ao y.1 r=true then _ else _)=_
  rw[dN]
  by_cases h:y.1=r
  ·rw[if_pos (by rw[PF]; exact h),if_pos h]
  ·rw[if_neg (by rw[PF]; exact h),if_neg h]
theorem KR (r:al):I9 xs r=some ((dN xs r,()),()):=by
 rw[Td]
 exact FA hl xs [] rfl
theorem Be {r:al} {a b:Int} {s:ByteArray} : ∀(ys pre:List ac),xs=pre++ys→sO xs (xs.length:Int) (pre.length:Int) r.1 r.2.1 a b s=some ((dN ys r,()),())
 | [],pre,he=>by
  rw[zI,aw (bi he)]
  rfl
 | y :: ys,pre,he=>by
  rw[zI,az (bq he),bk he,aL he (by omega),Be ys _ (av he)]
  show(if bN ao y.1 r=true then _ else _)=_
  rw[dN]
  by_cases h:y.1=r
  ·rw[if_pos (by rw[PF]; exact h),if_pos h]
  ·rw[if_neg (by rw[PF]; exact h),if_neg h]
theorem FB (r:al):BZ xs r=some ((dN xs r,()),()):=by
 rw[Pf]
 exact Be hl xs [] rfl
end
theorem PG:an v0=true:=by decide
theorem zb : ∀ {l:List ac} {r:al},(∀ c∈l,an c.2.1=true)→an (dN l r)=true
 | [],r,_=>PG
 | c :: l,r,h=>by
  unfold dN
  split
  ·exact h c (List.mem_cons_self ..)
  ·exact zb fun d hd=>h d (List.mem_cons_of_mem _ hd)
theorem n8 {l:List ac} (h:g8 l=true) : ∀ c∈l,an c.2.1=true:=by
 unfold g8 at h
 simp only[Bool.and_eq_true,List.all_eq_true] at h
 exact fun c hc=>(h.2.1 c hc).2
theorem nd {n:Int} (h0:1≤n) (h1:n≤5):an (vE n)=true:=by
 unfold an vE
 simp[cw]
 omega
theorem Bf {n:Int} (h0 : -1000000000000000≤n) (h1:n≤1000000000000000):an (vN n)=true:=by
 unfold an vN
 simp[cw]
 omega
theorem Ut (b:Bool):an (vB b)=true:=by cases b <;> decide
theorem PH (n:Int):an (bnd n)=true:=by
 unfold bnd
 split
 ·have:=bA.1 ‹_›
  exact Bf this.1 this.2
 ·exact nd (by decide) (by decide)
theorem sU (v:ab):an (f6 v)=true:=by
 unfold f6
 split
 ·split
  ·assumption
  ·exact nd (by decide) (by decide)
 ·exact nd (by decide) (by decide)
theorem Jc {f:Int→Int→ab} (hf : ∀ x y,an (f x y)=true) (a b:ab):an (pP f a b)=true:=by
 unfold pP
 split
 ·split
  ·exact hf _ _
  ·exact sU _
 ·exact sU _
theorem FC (a b:ab):an (i7 a b)=true:=Jc (fun _ _=>PH _) a b
theorem Uu (a b:ab):an (yR a b)=true:=Jc (fun _ _=>PH _) a b
theorem Wj (a b:ab):an (GF a b)=true:=Jc (fun x y=>by
 unfold Pv
 split
 ·exact Bf (by omega) (by omega)
 ·exact nd (by decide) (by decide)) a b
theorem Wk (a b:ab):an (GD a b)=true:=Jc (fun x y=>by
 split
 ·exact nd (by decide) (by decide)
 ·exact PH _) a b
theorem Wl (a:ab):an (DI a)=true:=Uu _ _
theorem RE : ∀(n u:Nat),u≤n → ∀ b∈Lib.decDigits u,48≤b.toNat∧b.toNat≤57:=by
 intro n
 induction n with
 | zero =>
  intro u h b hb
  rw[Lib.decDigits,dif_pos (by omega)] at hb
  rw[List.mem_singleton.1 hb]
  have:u=0:=by omega
  subst this
  decide
 | succ n ih =>
  intro u h b hb
  rw[Lib.decDigits] at hb
  split at hb
  ·rename_i h10
   rw[List.mem_singleton.1 hb]
   simp only[UInt8.toNat_ofNat']
   omega
  ·rcases List.mem_append.1 hb with hb | hb
   ·exact ih (u / 10) (by omega) b hb
   ·rw[List.mem_singleton.1 hb]
    simp only[UInt8.toNat_ofNat']
    omega
theorem VK (l:List UInt8):mr ⟨l.toArray⟩=l.map fun b=>(b.toNat:Int):=by simp[mr]
theorem PI (n:Int):plain (gi n)=true:=by
 have hu : ∀ u:Nat,plain ⟨(Lib.decDigits u).toArray⟩=true:=by
  intro u
  unfold plain
  rw[VK,List.all_eq_true]
  intro x hx
  obtain⟨b,hb,rfl⟩:=List.mem_map.1 hx
  have:=RE u u (Nat.le_refl _) b hb
  unfold so
  simp
  omega
 by_cases h:n < 0
 ·rw[vz h,show -n=((-n).toNat:Int) by omega,n7]
  have:=hu (-n).toNat
  unfold plain at this ⊢
  rw[E1,List.all_append,this]
  decide
 ·rw[show n=(n.toNat:Int) by omega,n7]
  exact hu _
theorem H0 {a b:ByteArray}:plain (a++b)=(plain a && plain b):=by
 unfold plain
 rw[E1,List.all_append]
theorem PJ (n:Int):plain (dp n)=true:=by
 have h : ∀ i:Nat,i < 6→plain (Tv.getD i eS)=true:=by decide
 unfold dp
 by_cases hn:n.toNat < 6
 ·exact h _ hn
 ·rw[List.getD_eq_getElem?_getD,List.getElem?_eq_none (by show 6≤n.toNat; omega)]
  decide
theorem KS {v:ab} (h:an v=true) (k:v.1=2):v.2.1=0∧plain v.2.2.1=true∧v.2.2.1.size≤200:=by
 unfold an at h
 rw[if_pos k] at h
 simp only[Bool.and_eq_true,decide_eq_true_eq] at h
 exact⟨h.1,h.2.1,by omega⟩
theorem PK {v:ab} (h:an v=true):plain (dq v)=true:=by
 unfold dq
 split
 ·exact PI _
 ·split
  ·rw[H0,(KS h ‹_›).2.1]
   decide
  ·split
   ·unfold B2
    split <;> decide
   ·split
    ·exact PJ _
    ·decide
theorem H1 {v:ab} (h:an v=true):plain (px v)=true:=by
 unfold px
 split
 ·exact(KS h ‹_›).2.1
 ·exact PK h
theorem WC {s:ByteArray} (h:plain s=true) (k:s.size≤200):an (vT s)=true:=by
 unfold an vT
 simp[h]
 omega
theorem VL (a b:ab):an (yY a b)=true:=by
 unfold yY
 split
 ·split
  ·split
   ·exact nd (by decide) (by decide)
   ·rename_i h1 h2 h3
    refine WC ?_ (by rw[size_append]; omega)
    rw[H0,H1 (tc h1),H1 (tc h2)]
    rfl
  ·exact sU _
 ·exact sU _
theorem VM (op:Int) (a b:ab):an (yZ op a b)=true:=by
 unfold yZ
 split
 ·split
  ·split
   ·split
    ·assumption
    ·split
     ·assumption
     ·exact Ut _
   ·exact nd (by decide) (by decide)
  ·exact nd (by decide) (by decide)
 ·exact nd (by decide) (by decide)
def kS (v:ab):Bool:=an v && (decide (v.1=0) || decide (v.1=1) || decide (v.1=3))
theorem wc {v:ab} (h:v.2.2.1.size≤9223372036854775807):tL v=some ((decide (v.2.1≠0),kS v,()),()):=by
 rw[MK]
 unfold kS
 simp only[ef h,Option.bind_some,beq_iff_eq]
 have hb:(v.2.1 != 0)=decide (v.2.1≠0):=by by_cases h:v.2.1=0 <;> simp[h]
 rw[hb]
 cases an v
 ·rfl
 ·by_cases h0:v.1=0
  ·simp[h0]
  ·by_cases h1:v.1=1
   ·simp[h1]
   ·simp[h0,h1,A2]
theorem zd {v:ab} (h:an v=true):s8 v=some ((if kS v=true then decide (v.2.1≠0) else false,if kS v=true then v0 else f6 v,()),()):=by
 rw[OY]
 unfold kS f6
 simp only[dj,Option.bind_some,beq_iff_eq,h,if_true,Bool.true_and]
 rcases Fp h with k | k | k | k | k
 ·have:v.2.1=0:=by
   unfold an at h
   rw[if_neg (by omega),if_pos k] at h
   simp only[Bool.and_eq_true,decide_eq_true_eq] at h
   exact h.2
  simp[k,this,v0]
 ·have hb:(v.2.1 != 0)=decide (v.2.1≠0):=by by_cases h:v.2.1=0 <;> simp[h]
  simp[k,hb,v0]
 ·simp[k]
 ·have:=GH h k
  have:v.2.1=0∨v.2.1=1:=by omega
  rcases this with h1 | h1 <;> simp[k,h1,v0]
 ·simp[k]
def Bg (a:Bool):List ab→Bool→Bool→ab
 | [],all,one=>vB (if a=true then all else one)
 | v :: l,all,one=>if kS v=true then Bg a l (all && decide (v.2.1≠0)) (one || decide (v.2.1≠0)) else f6 v
def ul:List ab→ab→ab
 | [],s=>s
 | v :: l,s=>if v.1=4 then v else if v.1=1 then(if(i7 s v).1=4 then i7 s v else ul l (i7 s v)) else ul l s
def mE (op:Int):List ab→Int→Int→Int→ab
 | [],l,m,c=>if op=2 then vN l else if op=3 then vN m else vN c
 | v :: t,l,m,c=>if v.1=4∧op≠4 then v else if v.1=1 then(if c=0 then mE op t v.2.1 v.2.1 1 else mE op t (if v.2.1 < l then v.2.1 else l) (if m < v.2.1 then v.2.1 else m) (c+1)) else mE op t l m c
theorem KT (a:Bool) (v:ab) (l:List ab) (all one:Bool):Bg a (v :: l) all one=if kS v=true then Bg a l (all && decide (v.2.1≠0)) (one || decide (v.2.1≠0)) else f6 v:=rfl
theorem H2 (v:ab) (l:List ab) (s:ab):ul (v :: l) s=if v.1=4 then v else if v.1=1 then(if(i7 s v).1=4 then i7 s v else ul l (i7 s v)) else ul l s:=rfl
theorem H3 (op:Int) (v:ab) (t:List ab) (l m c:Int):mE op (v :: t) l m c=if v.1=4∧op≠4 then v else if v.1=1 then(if c=0 then mE op t v.2.1 v.2.1 1 else mE op t (if v.2.1 < l then v.2.1 else l) (if m < v.2.1 then v.2.1 else m) (c+1)) else mE op t l m c:=rfl
section
variable {xs:List ab} (hl:xs.length≤100000000) (hv : ∀ v∈xs,an v=true)
include hl hv
theorem xH {op:Int} {p q:Int} {s:ByteArray} : ∀(ys pre:List ab) (all one:Bool),xs=pre++ys→gY op all one xs (xs.length:Int) (pre.length:Int) p q s=some ((Bg (decide (op=6)) ys all one,()),())
 | [],pre,all,one,he=>by
  rw[vn,aw (bi he)]
  by_cases h:op=6 <;> simp[h,rD,Bg]
 | y :: ys,pre,all,one,he=>by
  have hy:=hv y (by rw[he]; simp)
  rw[vn,az (bq he),bk he,wc (dk hy),Option.bind_some,aL he (by omega)]
  simp only[xH ys _ _ _ (av he),fw (dk hy),Option.bind_some]
  rw[KT]
  cases kS y
  ·simp
  ·cases all <;> cases one <;> simp
theorem KU (op:Int):jE op xs=some ((Bg (decide (op=6)) xs true false,()),()):=by
 rw[KB]
 exact xH hl hv xs [] true false rfl
theorem um {p q:Int} {u:ByteArray} : ∀(ys pre:List ab) (s:ab),xs=pre++ys→an s=true→s.1≠4→pm xs (xs.length:Int) (pre.length:Int) p q u s.1 s.2.1 s.2.2.1=some ((ul ys s,()),())
 | [],pre,s,he,hs,h4=>by
  rw[zJ,aw (bi he)]
  rfl
 | y :: ys,pre,s,he,hs,h4=>by
  have hy:=hv y (by rw[he]; simp)
  rw[zJ,az (bq he),bk he,aL he (by omega)]
  show(if(y.1 == 4)=true then _ else if(y.1 == 1)=true then(Ke s y).bind _ else _)=_
  rw[NP (dk hs) (dk hy),Option.bind_some]
  rw[H2]
  by_cases k4:y.1=4
  ·simp[k4]
  ·by_cases k1:y.1=1
   ·by_cases ka:(i7 s y).1=4
    ·simp[k1,ka]
    ·simp only[k1,ka,beq_iff_eq,if_true,if_false]
     rw[if_neg (by decide),if_neg (by decide)]
     exact um ys _ (i7 s y) (av he) (FC _ _) ka
   ·simp only[k4,k1,h4,beq_iff_eq,if_false]
    exact um ys _ s (av he) hs h4
theorem PL:nX xs=some ((ul xs (vN 0),()),()):=by
 rw[Pk,iL,Option.bind_some]
 exact um hl hv xs [] (vN 0) rfl (Bf (by decide) (by decide)) (by decide)
theorem xI {op:Int} {p q:Int} {u:ByteArray} : ∀(ys pre:List ab) (l m c:Int),xs=pre++ys→0≤c→c≤pre.length→eU op l m c xs (xs.length:Int) (pre.length:Int) p q u=some ((mE op ys l m c,()),())
 | [],pre,l,m,c,he,h0,h1=>by
  rw[vo,aw (bi he)]
  unfold mE
  by_cases h2:op=2
  ·simp[h2,iL]
  ·by_cases h3:op=3 <;> simp[h2,h3,iL]
 | y :: ys,pre,l,m,c,he,h0,h1=>by
  have hlt:=bq he
  have ih:=fun l m c h0 h1=>xI (op:=op) (p:=p) (q:=q) (u:=u) ys _ l m c (av he) h0 h1
  rw[vo,az hlt,bk he,aL he (by omega)]
  rw[wr (n:=c+1) (by omega) (by omega)]
  have hp:((pre++[y]).length:Int)=pre.length+1:=by simp
  generalize ((pre++[y]).length:Int)=w at ih hp ⊢
  rw[H3]
  simp only[beq_iff_eq,bne_iff_ne,ne_eq]
  by_cases hc:c=0
  ·subst hc
   have e1:=ih y.2.1 y.2.1 1 (by decide) (by omega)
   have e2:=ih l m 0 (by decide) (by omega)
   by_cases k4:y.1=4
   ·by_cases o4:op=4
    ·simp[k4,o4]
     rw[←o4]
     exact e2
    ·simp[k4,o4]
   ·by_cases k1:y.1=1
    ·simp[k1]
     exact e1
    ·simp[k4,k1]
     exact e2
  ·have e1:=ih (if y.2.1 < l then y.2.1 else l) (if m < y.2.1 then y.2.1 else m) (c+1) (by omega) (by omega)
   have e2:=ih l m c h0 (by omega)
   by_cases k4:y.1=4
   ·by_cases o4:op=4
    ·simp[k4,o4]
     rw[←o4]
     exact e2
    ·simp[k4,o4]
   ·by_cases k1:y.1=1
    ·simp[k1,hc]
     exact e1
    ·simp[k4,k1]
     exact e2
theorem KV (op:Int):jF op xs=some ((mE op xs 0 0 0,()),()):=by
 rw[KC]
 exact xI hl hv xs [] 0 0 0 rfl (by decide) (by decide)
theorem KW {op:Int} (ho:op=6∨op=7) {p q c k n:Int} {u t:ByteArray} : ∀(ys pre:List ab) (all one:Bool),xs=pre++ys→aY op xs c all one (pre.length:Int) p q u k n t=some ((Bg (decide (op=6)) ys all one,()),())
 | [],pre,all,one,he=>by
  rw[iq,aw (bi he)]
  rcases ho with rfl | rfl <;> simp[sS,Bg]
 | y :: ys,pre,all,one,he=>by
  have hy:=hv y (by rw[he]; simp)
  have ih:=fun all one=>KW ho (p:=p) (q:=q) (c:=c) (k:=k) (n:=n) (u:=u) (t:=t) ys _ all one (av he)
  rw[iq,az (bq he),bk he,zd hy,Option.bind_some,aL he (by omega)]
  simp only[ih]
  rw[KT]
  rcases ho with rfl | rfl
  ·cases it:kS y
   ·have:=dn y
    simp[this]
   ·cases all <;> cases one <;> simp[v0]
  ·cases it:kS y
   ·have:=dn y
    simp[this]
   ·cases all <;> cases one <;> simp[v0]
theorem DR {p q:Int} {u:ByteArray} : ∀(ys pre:List ab) (s:ab) (c:Int),xs=pre++ys→an s=true→0≤c→c≤pre.length→aY 1 xs c true false (pre.length:Int) p q u s.1 s.2.1 s.2.2.1=some ((ul ys s,()),())
 | [],pre,s,c,he,hs,c0,c1=>by
  rw[iq,aw (bi he)]
  rfl
 | y :: ys,pre,s,c,he,hs,c0,c1=>by
  have hlt:=bq he
  have hy:=hv y (by rw[he]; simp)
  rw[iq,az hlt,bk he,aL he (by omega),wr (n:=c+1) (by omega) (by omega)]
  have hsy:Dq (s.1,s.2.1,s.2.2.1,()) y=some ((i7 s y,()),()):=GE (dk hs) (dk hy)
  have e2:=DR (p:=p) (q:=q) (u:=u) ys _ s c (av he) hs c0 (by rw[List.length_append,List.length_singleton]; omega)
  have e1:=DR (p:=p) (q:=q) (u:=u) ys _ (i7 s y) (c+1) (av he) (FC _ _) (by omega) (by rw[List.length_append,List.length_singleton]; omega)
  simp only[hsy,Option.bind_some,e1,e2]
  rw[H2]
  by_cases k4:y.1=4
  ·simp[k4]
  ·by_cases k1:y.1=1
   ·by_cases ka:(i7 s y).1=4 <;> simp[k1,ka]
   ·simp[k4,k1]
theorem TC {v:ab} (h:an v=true) (k:v.1=1):v=vN v.2.1:=by
 unfold an at h
 rw[if_neg (by omega)] at h
 simp only[Bool.and_eq_true,decide_eq_true_eq] at h
 obtain⟨a,b,c,⟨⟩⟩:=v
 simp only at h k
 rw[k,h.1]
 rfl
set_option maxHeartbeats 2000000 in
theorem KX {op:Int} (ho:op=2∨op=3∨op=4) {p q:Int} {u:ByteArray} : ∀(ys pre:List ab) (l m c n:Int),xs=pre++ys→0≤c→c≤pre.length→c≤1000000000→(op=2→n=l)→(op=3→n=m)→aY op xs c true false (pre.length:Int) p q u 1 n eS=some ((mE op ys l m c,()),())
 | [],pre,l,m,c,n,he,h0,h1,h9,n2,n3=>by
  rw[iq,aw (bi he)]
  unfold mE
  rcases ho with rfl | rfl | rfl
  ·rw[n2 rfl]
   rfl
  ·rw[n3 rfl]
   rfl
  ·have:bnd c=vN c:=by
    unfold bnd
    rw[if_pos (bA.2 (by omega))]
   simp[jG,this]
 | y :: ys,pre,l,m,c,n,he,h0,h1,h9,n2,n3=>by
  have hlt:=bq he
  have hy:=hv y (by rw[he]; simp)
  have hp:((pre++[y]).length:Int)=pre.length+1:=by simp
  have ih:=fun l m c n h0 h1 h9 n2 n3=>KX ho (p:=p) (q:=q) (u:=u) ys _ l m c n (av he) h0 h1 h9 n2 n3
  rw[iq,az hlt,bk he,aL he (by omega),wr (n:=c+1) (by omega) (by omega)]
  generalize ((pre++[y]).length:Int)=w at ih hp ⊢
  rw[H3]
  simp only[beq_iff_eq,bne_iff_ne,ne_eq]
  by_cases k4:y.1=4
  ·rcases ho with rfl | rfl | rfl
   ·simp[k4]
   ·simp[k4]
   ·simp[k4]
    exact ih l m c n h0 (by omega) h9 (by simp) (by simp)
  ·by_cases k1:y.1=1
   ·have hyv:=TC hl hv hy k1
    have hyS:y.2.2.1=eS:=by rw[hyv]; rfl
    simp only[k1,hyS,not_true,if_false,if_true]
    by_cases hc:c=0
    ·subst hc
     rcases ho with rfl | rfl | rfl
     ·simp
      exact ih y.2.1 y.2.1 1 y.2.1 (by decide) (by omega) (by decide) (fun _=>rfl) (by simp)
     ·simp
      exact ih y.2.1 y.2.1 1 y.2.1 (by decide) (by omega) (by decide) (by simp) (fun _=>rfl)
     ·simp
      exact ih y.2.1 y.2.1 1 y.2.1 (by decide) (by omega) (by decide) (by simp) (by simp)
    ·have hc1 : ¬c+1=1:=by omega
     rcases ho with rfl | rfl | rfl
     ·have:=n2 rfl
      subst this
      by_cases hlt2:y.2.1 < n
      ·simp[hc,hc1,hlt2]
       exact ih _ _ (c+1) y.2.1 (by omega) (by omega) (by omega) (fun _=>rfl) (by simp)
      ·simp[hc,hc1,hlt2]
       exact ih _ _ (c+1) n (by omega) (by omega) (by omega) (fun _=>rfl) (by simp)
     ·have:=n3 rfl
      subst this
      by_cases hlt2:n < y.2.1
      ·simp[hc,hc1,hlt2]
       exact ih _ _ (c+1) y.2.1 (by omega) (by omega) (by omega) (by simp) (fun _=>rfl)
      ·simp[hc,hc1,hlt2]
       exact ih _ _ (c+1) n (by omega) (by omega) (by omega) (by simp) (fun _=>rfl)
     ·simp[hc,hc1]
      exact ih _ _ (c+1) n (by omega) (by omega) (by omega) (by simp) (by simp)
   ·rcases ho with rfl | rfl | rfl <;> simp[k4,k1]
    ·exact ih l m c n h0 (by omega) h9 n2 (by simp)
    ·exact ih l m c n h0 (by omega) h9 (by simp) n3
    ·exact ih l m c n h0 (by omega) h9 (by simp) (by simp)
def B6 (op:Int) (xs:List ab):ab:=if op=6∨op=7 then Bg (decide (op=6)) xs true false else if op=1 then ul xs (vN 0) else mE op xs 0 0 0
theorem PM {op:Int} (ho:op=1∨op=2∨op=3∨op=4∨op=6∨op=7):Gm op xs=some ((B6 op xs,()),()):=by
 rw[O2]
 unfold B6
 by_cases h6:op=6∨op=7
 ·rw[if_pos h6]
  exact KW hl hv h6 xs [] true false rfl
 ·rw[if_neg h6]
  by_cases h1:op=1
  ·subst h1
   exact DR hl hv xs [] (vN 0) 0 rfl (Bf (by decide) (by decide)) (by decide) (by decide)
  ·rw[if_neg h1]
   exact KX hl hv (by omega) xs [] 0 0 0 0 rfl (by decide) (by decide) (by decide) (fun _=>rfl) (fun _=>rfl)
end
theorem RF {a:Bool} : ∀ {l:List ab} {p q:Bool},an (Bg a l p q)=true
 | [],p,q=>Ut _
 | v :: l,p,q=>by
  unfold Bg
  split
  ·exact RF
  ·exact sU _
theorem GK : ∀ {l:List ab} {s:ab},(∀ v∈l,an v=true)→an s=true→an (ul l s)=true
 | [],s,_,h=>h
 | v :: l,s,hv,h=>by
  unfold ul
  split
  ·exact hv v (List.mem_cons_self ..)
  ·split
   ·split
    ·exact FC _ _
    ·exact GK (fun w hw=>hv w (List.mem_cons_of_mem _ hw)) (FC _ _)
   ·exact GK (fun w hw=>hv w (List.mem_cons_of_mem _ hw)) h
theorem B7 {op:Int} : ∀ {t:List ab} {l m c:Int},(∀ v∈t,an v=true)→(-1000000000000000≤l∧l≤1000000000000000)→(-1000000000000000≤m∧m≤1000000000000000)→(0≤c∧c+t.length≤1000000000000000)→an (mE op t l m c)=true
 | [],l,m,c,hv,hl,hm,hc=>by
  unfold mE
  simp only[List.length_nil] at hc
  split
  ·exact Bf hl.1 hl.2
  ·split
   ·exact Bf hm.1 hm.2
   ·exact Bf (by omega) (by omega)
 | v :: t,l,m,c,hv,hl,hm,hc=>by
  have hvv:=hv v (List.mem_cons_self ..)
  have hvt:=fun w hw=>hv w (List.mem_cons_of_mem _ hw)
  simp only[List.length_cons] at hc
  unfold mE
  split
  ·exact hvv
  ·split
   ·have:=xC hvv ‹_›
    split
    ·exact B7 hvt this this (by omega)
    ·refine B7 hvt ?_ ?_ (by omega)
     ·split <;> omega
     ·split <;> omega
   ·exact B7 hvt hl hm (by omega)
theorem TD {op:Int} {xs:List ab} (hv : ∀ v∈xs,an v=true) (hl:xs.length≤100000000):an (B6 op xs)=true:=by
 unfold B6
 split
 ·exact RF
 ·split
  ·exact GK hv (Bf (by decide) (by decide))
  ·exact B7 hv (by decide) (by decide) (by omega)
def dI (a:aJ) (r:al):Bool:=cw r.1 a.1.1 a.2.1.1 && cw r.2.1 a.1.2.1 a.2.1.2.1
def cT (x:aa):aJ:=if x.1=2 then(x.2.2.2.1.1,x.2.2.2.1.1,()) else(x.2.2.2.1.1,x.2.2.2.2.1.1,())
theorem uo (r:al) (a:aJ):rg r a=some ((dI a r,()),()):=by
 rw[Kq]
 unfold dI
 simp only[lJ,Option.bind_some]
 cases cw r.1 a.1.1 a.2.1.1 <;> simp
theorem Bh (a:aJ) (r:al):ri a r=some ((dI a r,()),()):=by
 rw[Kx]
 unfold dI
 simp only[iK,Option.bind_some]
 cases cw r.1 a.1.1 a.2.1.1 <;> simp
theorem xJ (x:aa):iY x=some ((cT x,()),()):=by
 rw[xi]
 unfold cT
 by_cases h:x.1=2 <;> simp[h]
def g9 (l:List ac) (a:aJ):List ab:=(l.filter fun c=>dI a c.1).map fun c=>c.2.1
def iM (ev:Int→ab) (f:List aa) (l:List ac):List Int→List ab
 | []=>[]
 | k :: ks=>(if(fk f k).1=3 then g9 l (cT (fk f k)) else [ev k])++iM ev f l ks
def Uv (op:Int) (n:Int) (kid:Nat→ab) (args:List ab):ab :=
 if op=5 then(if kS (kid 0)=true then(if(kid 0).2.1≠0 then kid 1 else if n > 2 then kid 2 else vB false) else f6 (kid 0))
 else if op=8 then(if kS (kid 0)=true then vB (!decide ((kid 0).2.1≠0)) else f6 (kid 0))
 else if op=9 then(if cA (kid 0)=true then vN ((kid 0).2.1.natAbs:Int) else f6 (kid 0))
 else if op=10 then(if mC (kid 0)=true then vN ((px (kid 0)).size:Int) else f6 (kid 0))
 else B6 op args
def VN (op:Int) (a b:ab):ab:=if op=1 then i7 a b else if op=2 then yR a b else if op=3 then GF a b else if op=4 then GD a b else if op=5 then yY a b else yZ op a b
def cD:Nat→List aa→List ac→Int→ab
 | 0,_,_,_=>v0
 | n+1,f,l,k =>
  let x:=fk f k
  let kid:=fun i:Nat=>cD n f l (x.2.2.2.2.2.1.getD i 0)
  if x.1=1 then x.2.2.1 else if x.1=2 then dN l x.2.2.2.1.1 else if x.1=3 then vE 2 else if x.1=4 then DI (kid 0)
  else if x.1=6 then Uv x.2.1 (kl x) kid (iM (cD n f l) f l x.2.2.2.2.2.1) else VN x.2.1 (kid 0) (kid 1)
section
variable {f:List aa} {l:List ac} (hl:l.length≤1000) (hf:f.length≤10000000)
include hl hf
theorem up {k:Int} {i:Int} {a:aJ} : ∀(ys pre:List ac) (acc:List ab),l=pre++ys→acc.length+ys.length≤1000000→i6 f k l i (pre.length:Int) acc a.1 a.2.1=me f k l (IntKind.i64.wrap (i+1)) (acc++g9 ys a)
 | [],pre,acc,he,hb=>by
  rw[xy,aw (bi he)]
  simp[g9]
 | y :: ys,pre,acc,he,hb=>by
  have hb':acc.length+(ys.length+1)≤1000000:=by simpa using hb
  rw[xy,az (bq he),bk he,uo,Option.bind_some,aL he (by omega)]
  show(if dI a y.1=true then _ else _)=_
  cases ha:dI a y.1
  ·rw[if_neg (by decide),up ys _ acc (av he) (by omega)]
   simp[g9,ha]
  ·rw[if_pos rfl,bk he,bv (I7 (by simp only[List.length_singleton]; omega)),up ys _ _ (av he) (by simp only[List.length_append,List.length_singleton]; omega)]
   simp[g9,ha]
theorem qk {k:Int} {x:aa} (hk0:0≤k) (hk:f[k.toNat]? = some x) {ks:List Int} {i:Int} : ∀(ys pre:List ac) (acc:List ab),l=pre++ys→acc.length+ys.length≤1000000→g7 f l k ks (ks.length:Int) i l (l.length:Int) (pre.length:Int) acc=ju f l ks (ks.length:Int) (IntKind.i64.wrap (i+1)) (acc++g9 ys (cT x))
 | [],pre,acc,he,hb=>by
  rw[vv,aw (bi he)]
  simp[g9]
 | y :: ys,pre,acc,he,hb=>by
  have hb':acc.length+(ys.length+1)≤1000000:=by simpa using hb
  rw[vv,az (bq he),bk he,bP hk0 hk,xJ,Option.bind_some,Bh,Option.bind_some,aL he (by omega)]
  show(if dI (cT x) y.1=true then _ else _)=_
  cases ha:dI (cT x) y.1
  ·rw[if_neg (by decide),qk hk0 hk ys _ acc (av he) (by omega)]
   simp[g9,ha]
  ·rw[if_pos rfl,bv (I7 (by simp only[List.length_singleton]; omega)),qk hk0 hk ys _ _ (av he) (by simp only[List.length_append,List.length_singleton]; omega)]
   simp[g9,ha]
omit hf in
theorem ze (a:aJ):(g9 l a).length≤1000:=by
 unfold g9
 rw[List.length_map]
 exact Nat.le_trans (List.length_filter_le _ _) hl
theorem uq {k:Int} {x:aa} {ev:Int→ab} (hk0:0≤k) (hk:f[k.toNat]? = some x) (hkl:x.2.2.2.2.2.1.length≤100) (hev : ∀ j∈x.2.2.2.2.2.1,0≤j∧j < f.length∧eG f j l=some ((ev j,()),())) :
  ∀(ys pre:List Int) (acc:List ab),x.2.2.2.2.2.1=pre++ys→acc.length≤pre.length*1000→me f k l (pre.length:Int) acc=some ((acc++iM ev f l ys,()),())
 | [],pre,acc,he,hb=>by
  rw[zF,bP hk0 hk,aw (bi he)]
  simp[iM]
 | y :: ys,pre,acc,he,hb=>by
  have hlen:pre.length < 100:=by
   rw[he,List.length_append,List.length_cons] at hkl
   omega
  obtain⟨y0,y1,y2⟩:=hev y (by rw[he]; simp)
  obtain⟨z,hz⟩ : ∃ z,f[y.toNat]? = some z:=⟨f[y.toNat]'(by omega),List.getElem?_eq_getElem _⟩
  have hnz:fk f y=z:=by
   unfold fk
   rw[List.getD_eq_getElem?_getD,hz]
   rfl
  rw[zF,bP hk0 hk,az (bq he),bP hk0 hk,bk he,bP y0 hz]
  unfold iM
  rw[hnz]
  by_cases h3:z.1=3
  ·rw[if_neg (by simp[h3]),if_pos h3,show i6 f k l (pre.length:Int) 0 acc z.2.2.2.1.1 z.2.2.2.2.1.1=i6 f k l (pre.length:Int) (([]:List ac).length:Int) acc (z.2.2.2.1.1,z.2.2.2.2.1.1,()).1 (z.2.2.2.1.1,z.2.2.2.2.1.1,()).2.1 from rfl,up hl hf l [] acc rfl (by omega),aL he (by omega),uq hk0 hk hkl hev ys _ _ (av he)]
   ·have ha:cT z=(z.2.2.2.1.1,z.2.2.2.2.1.1,()):=by
     unfold cT
     rw[if_neg (by omega)]
    rw[ha]
    simp
   ·have:=ze hl (z.2.2.2.1.1,z.2.2.2.2.1.1,())
    simp only[List.length_append,List.length_singleton]
    omega
  ·rw[if_pos (by simp[h3]),if_neg h3,bP hk0 hk,bk he,y2,Option.bind_some,bv (I7 (by simp only[List.length_singleton]; omega)),aL he (by omega),uq hk0 hk hkl hev ys _ _ (av he)]
   ·simp
   ·simp only[List.length_append,List.length_singleton]
    omega
theorem ql {x:aa} {ev:Int→ab} (hkl:x.2.2.2.2.2.1.length≤100) (hev : ∀ j∈x.2.2.2.2.2.1,0≤j∧j < f.length∧iz f j l=some ((ev j,()),())) :
  ∀(ys pre:List Int) (acc:List ab),x.2.2.2.2.2.1=pre++ys→acc.length≤pre.length*1000→ju f l x.2.2.2.2.2.1 (x.2.2.2.2.2.1.length:Int) (pre.length:Int) acc=some ((acc++iM ev f l ys,()),())
 | [],pre,acc,he,hb=>by
  rw[vm,aw (bi he)]
  simp[iM]
 | y :: ys,pre,acc,he,hb=>by
  have hlen:pre.length < 100:=by
   rw[he,List.length_append,List.length_cons] at hkl
   omega
  obtain⟨y0,y1,y2⟩:=hev y (by rw[he]; simp)
  obtain⟨z,hz⟩ : ∃ z,f[y.toNat]? = some z:=⟨f[y.toNat]'(by omega),List.getElem?_eq_getElem _⟩
  have hnz:fk f y=z:=by
   unfold fk
   rw[List.getD_eq_getElem?_getD,hz]
   rfl
  rw[vm,az (bq he),bk he,bP y0 hz]
  unfold iM
  rw[hnz]
  by_cases h3:z.1=3
  ·rw[if_neg (by simp[h3]),if_pos h3,show g7 f l y x.2.2.2.2.2.1 (x.2.2.2.2.2.1.length:Int) (pre.length:Int) l (l.length:Int) 0 acc=g7 f l y x.2.2.2.2.2.1 (x.2.2.2.2.2.1.length:Int) (pre.length:Int) l (l.length:Int) (([]:List ac).length:Int) acc from rfl,qk hl hf y0 hz l [] acc rfl (by omega),aL he (by omega),ql hkl hev ys _ _ (av he)]
   ·simp
   ·have:=ze hl (cT z)
    simp only[List.length_append,List.length_singleton]
    omega
  ·rw[if_pos (by simp[h3]),if_neg h3,y2,Option.bind_some,bv (I7 (by simp only[List.length_singleton]; omega)),aL he (by omega),ql hkl hev ys _ _ (av he)]
   ·simp
   ·simp only[List.length_append,List.length_singleton]
    omega
omit hf in
theorem H4 {ev:Int→ab} : ∀ ks:List Int,(iM ev f l ks).length≤ks.length*1001
 | []=>by simp[iM]
 | k :: ks=>by
  have:=H4 (ev:=ev) ks
  have h:=ze hl (cT (fk f k))
  unfold iM
  rw[List.length_append,List.length_cons]
  split
  ·omega
  ·rw[List.length_singleton]
   omega
omit hl hf in
theorem KY {ev:Int→ab} (hv : ∀ c∈l,an c.2.1=true) : ∀ ks:List Int,(∀ j∈ks,an (ev j)=true) → ∀ v∈iM ev f l ks,an v=true
 | [],_,v,h=>by cases h
 | k :: ks,he,v,h=>by
  unfold iM at h
  rcases List.mem_append.1 h with h | h
  ·split at h
   ·unfold g9 at h
    obtain⟨c,hc,rfl⟩:=List.mem_map.1 h
    exact hv c (List.mem_filter.1 hc).1
   ·rw[List.mem_singleton.1 h]
    exact he k (List.mem_cons_self ..)
  ·exact KY hv ks (fun j hj=>he j (List.mem_cons_of_mem _ hj)) v h
theorem KZ {x:aa} (h:du x=true):(x.1=1∧an x.2.2.1=true)∨x.1=2∨x.1=3∨(x.1=4∧kl x=1)∨(x.1=5∧kl x=2∧cw x.2.1 1 11=true)∨(x.1=6∧mX x.2.1 (kl x)=true):=by
 unfold du at h
 by_cases h1:x.1=1
 ·rw[if_pos h1] at h
  simp only[Bool.and_eq_true] at h
  exact .inl ⟨h1,h.1.1.2⟩
 rw[if_neg h1] at h
 by_cases h2:x.1=2
 ·exact .inr (.inl h2)
 rw[if_neg h2] at h
 by_cases h3:x.1=3
 ·exact .inr (.inr (.inl h3))
 rw[if_neg h3] at h
 by_cases h4:x.1=4
 ·rw[if_pos h4] at h
  simp only[Bool.and_eq_true,decide_eq_true_eq] at h
  exact .inr (.inr (.inr (.inl ⟨h4,h.2⟩)))
 rw[if_neg h4] at h
 by_cases h5:x.1=5
 ·rw[if_pos h5] at h
  simp only[Bool.and_eq_true,decide_eq_true_eq] at h
  exact .inr (.inr (.inr (.inr (.inl ⟨h5,h.2,h.1.1.1.1⟩))))
 rw[if_neg h5] at h
 by_cases h6:x.1=6
 ·rw[if_pos h6] at h
  simp only[Bool.and_eq_true,decide_eq_true_eq] at h
  exact .inr (.inr (.inr (.inr (.inr ⟨h6,h.1.1.1⟩))))
 rw[if_neg h6] at h
 cases h
theorem K0 {op k:Int} (h:mX op k=true):(op=5∧(k=2∨k=3))∨((op=1∨op=2∨op=3∨op=4∨op=6∨op=7)∧1≤k∧k≤10)∨((op=8∨op=9∨op=10)∧k=1):=by
 unfold mX at h
 by_cases h5:op=5
 ·rw[if_pos h5] at h
  simp only[Bool.or_eq_true,decide_eq_true_eq] at h
  exact .inl ⟨h5,h⟩
 ·rw[if_neg h5] at h
  split at h
  ·rename_i h7
   have:=bA.1 h7
   have:=bA.1 h
   exact .inr (.inl ⟨by omega,by omega⟩)
  ·split at h
   ·rename_i h8
    have:=bA.1 h8
    simp only[decide_eq_true_eq] at h
    exact .inr (.inr ⟨by omega,h⟩)
   ·cases h
omit hl hf in
theorem RG {v:ab} (h:cA v=true):(if v.2.1 < IntKind.i64.wrap (0 - v.2.1) then IntKind.i64.wrap (0 - v.2.1) else v.2.1)=(v.2.1.natAbs:Int):=by
 have:=cj h
 rw[wr (by omega) (by omega)]
 split <;> omega
omit hl hf in
theorem K1 {n:Int} (h0 : -1000000000000000≤n) (h1:n≤1000000000000000):bnd n=vN n:=by
 unfold bnd
 rw[if_pos (bA.2 ⟨h0,h1⟩)]
theorem NY (A : ∀(i:Nat) (x:aa),f[i]? = some x→lK f i x) (hv : ∀ c∈l,an c.2.1=true) : ∀(n:Nat) (k:Int),0≤k→k < n→k < f.length →
  eG f k l=some ((cD n f l k,()),())∧iz f k l=some ((cD n f l k,()),())∧an (cD n f l k)=true
 | 0,k,h0,h1,_=>by omega
 | n+1,k,h0,h1,h2=>by
  obtain⟨x,hx⟩ : ∃ y,f[k.toNat]? = some y:=⟨f[k.toNat]'(by omega),List.getElem?_eq_getElem _⟩
  have hst:=A _ _ hx
  have hnx:fk f k=x:=by
   unfold fk
   rw[List.getD_eq_getElem?_getD,hx]
   rfl
  have hk : ∀ j∈x.2.2.2.2.2.1,eG f j l=some ((cD n f l j,()),())∧iz f j l=some ((cD n f l j,()),())∧an (cD n f l j)=true:=fun j hj=>by
   have:=hst.2 j hj
   exact NY A hv n j this.1 (by omega) (by omega)
  rw[OX,Tl,bP h0 hx,bP h0 hx]
  unfold cD
  simp only[hnx]
  rcases KZ hl hf hst.1 with⟨k1,ho⟩ | k2 | k3 | ⟨k4,hkl⟩ | ⟨k5,hkl,hop⟩ | ⟨k6,hop⟩
  ·simp[k1,ho]
  ·simp[k2,KR (xs:=l) (by omega),FB (xs:=l) (by omega),zb hv]
  ·simp[k3,dj,gx,nd (n:=2) (by decide) (by decide)]
  ·obtain⟨a,ha⟩ : ∃ a,x.2.2.2.2.2.1=[a]:=List.length_eq_one_iff.1 (by unfold kl at hkl; omega)
   obtain⟨e1,e2,e3⟩:=hk a (by rw[ha]; simp)
   have hi : ∀(d:Int) (g:Int→Option ((ab×Unit)×Unit)),ix [a] 0 d g=g a:=fun d g=>bP (by decide) rfl
   simp[k4,ha,hi,e1,e2,CO (dk e3),MQ (dk e3),Wl]
  ·obtain⟨a,b,ha⟩ : ∃ a b,x.2.2.2.2.2.1=[a,b]:=by
    cases hq:x.2.2.2.2.2.1 with
    | nil=>unfold kl at hkl; rw[hq] at hkl; simp at hkl
    | cons a t=>cases t with
     | nil=>unfold kl at hkl; rw[hq] at hkl; simp at hkl
     | cons b t=>cases t with
      | nil=>exact⟨a,b,rfl⟩
      | cons c t=>unfold kl at hkl; rw[hq] at hkl; simp at hkl; omega
   obtain⟨e1,e2,e3⟩:=hk a (by rw[ha]; simp)
   obtain⟨g1,g2,g3⟩:=hk b (by rw[ha]; simp)
   have hi : ∀(d:Int) (g:Int→Option ((ab×Unit)×Unit)),ix [a,b] 0 d g=g a:=fun d g=>bP (by decide) rfl
   have hj : ∀(d:Int) (g:Int→Option ((ab×Unit)×Unit)),ix [a,b] 1 d g=g b:=fun d g=>bP (by decide) rfl
   have b1:=dk e3
   have b2:=dk g3
   simp only[k5,ha,hi,hj,e1,e2,g1,g2,Option.bind_some,GE b1 b2,NP b1 b2,Ts b1 b2,KG b1 b2,Rv b1 b2,Rx b1 b2,Tt b1 b2,Tu b1 b2,Py b1 b2,Pz b1 b2,Tw b1 b2,Tx b1 b2,List.getD_cons_zero,List.getD_cons_succ]
   unfold VN
   by_cases o1:x.2.1=1
   ·simp[o1,FC]
   by_cases o2:x.2.1=2
   ·simp[o2,Uu]
   by_cases o3:x.2.1=3
   ·simp[o3,Wj]
   by_cases o4:x.2.1=4
   ·simp[o4,Wk]
   by_cases o5:x.2.1=5
   ·simp[o5,VL]
   simp[o1,o2,o3,o4,o5,VM]
  ·have hcs:=K0 hl hf hop
   have hn10:x.2.2.2.2.2.1.length≤10:=by unfold kl at hcs; omega
   have hne:1≤x.2.2.2.2.2.1.length:=by unfold kl at hcs; omega
   obtain⟨a,t,hat⟩ : ∃ a t,x.2.2.2.2.2.1=a :: t:=by
    cases hq:x.2.2.2.2.2.1 with
    | nil=>rw[hq] at hne; simp at hne
    | cons a t=>exact⟨a,t,rfl⟩
   obtain⟨e1,e2,e3⟩:=hk a (by rw[hat]; simp)
   have hi : ∀(d:Int) (g:Int→Option ((ab×Unit)×Unit)),ix x.2.2.2.2.2.1 0 d g=g a:=fun d g=>bP (by decide) (by rw[hat]; rfl)
   have hg0:x.2.2.2.2.2.1.getD 0 0=a:=by rw[hat]; rfl
   rw[O3,Pl,bP h0 hx]
   have b1:=dk e3
   unfold Uv
   rcases hcs with⟨o5,hk2⟩ | ⟨oo,_⟩ | ⟨oo,_⟩
   ·
    have hm : ∀ j:Nat,j < x.2.2.2.2.2.1.length → ∃ c,x.2.2.2.2.2.1[j]? = some c∧x.2.2.2.2.2.1.getD j 0=c∧eG f c l=some ((cD n f l c,()),())∧iz f c l=some ((cD n f l c,()),())∧an (cD n f l c)=true:=fun j hj=>by
     refine⟨x.2.2.2.2.2.1[j],List.getElem?_eq_getElem _,by simp[List.getD_eq_getElem?_getD,hj],hk _ (List.getElem_mem _)⟩
    rw[Ph]
    simp only[k6,o5,hi,hg0,e1,e2,Option.bind_some,zd e3,wc b1,fw b1,rD,sS,beq_self_eq_true,if_true]
    unfold kl at hk2
    cases ht:kS (cD n f l a) with
    | false =>
     have:=dn (cD n f l a)
     simp[this,sU]
    | true =>
     obtain⟨c,c1,c2,c3,c4,c5⟩:=hm 1 (by omega)
     have hi1 : ∀(d:Int) (g:Int→Option ((ab×Unit)×Unit)),ix x.2.2.2.2.2.1 1 d g=g c:=fun d g=>bP (by decide) c1
     simp only[if_true,hi1,c2,c3,c4,Option.bind_some]
     by_cases hz:(cD n f l a).2.1=0
     ·rcases hk2 with h22 | h33
      ·have h22':x.2.2.2.2.2.1.length=2:=by omega
       simp[hz,v0,kl,h22',Ut]
      ·obtain⟨d,d1,d2,d3,d4,d5⟩:=hm 2 (by omega)
       have hi2 : ∀(z:Int) (g:Int→Option ((ab×Unit)×Unit)),ix x.2.2.2.2.2.1 2 z g=g d:=fun z g=>bP (by decide) d1
       have h33':x.2.2.2.2.2.1.length=3:=by omega
       have d2':x.2.2.2.2.2.1[2]?.getD 0=d:=by rw[←List.getD_eq_getElem?_getD]; exact d2
       have d6 : ∀ hh:2 < x.2.2.2.2.2.1.length,x.2.2.2.2.2.1[2]'hh=d:=fun hh=>by
        rw[List.getElem?_eq_getElem hh] at d1
        exact Option.some.inj d1
       simp[hz,v0,kl,h33',hi2,d6,d3,d4,d5]
     ·have c2':x.2.2.2.2.2.1[1]?.getD 0=c:=by rw[←List.getD_eq_getElem?_getD]; exact c2
      simp[hz,v0,c5,c2']
   ·
    have h5:x.2.1≠5:=by omega
    have h8:x.2.1≠8:=by omega
    have h9:x.2.1≠9:=by omega
    have h10:x.2.1≠10:=by omega
    have ea:=uq hl hf (ev:=cD n f l) h0 hx (by omega) (fun j hj=>⟨(hst.2 j hj).1,by have:=(hst.2 j hj).2.1; omega,(hk j hj).1⟩) x.2.2.2.2.2.1 [] [] rfl (by simp)
    have eb:=ql hl hf (x:=x) (ev:=cD n f l) (by omega) (fun j hj=>⟨(hst.2 j hj).1,by have:=(hst.2 j hj).2.1; omega,(hk j hj).2.1⟩) x.2.2.2.2.2.1 [] [] rfl (by simp)
    have hal:=H4 hl (f:=f) (ev:=cD n f l) x.2.2.2.2.2.1
    have hav:=KY (f:=f) (ev:=cD n f l) hv x.2.2.2.2.2.1 (fun j hj=>(hk j hj).2.2)
    simp only[List.nil_append] at ea eb
    generalize iM (cD n f l) f l x.2.2.2.2.2.1=args at ea eb hal hav ⊢
    have ea':Gl f k l=some ((args,()),()):=by rw[O1]; exact ea
    have eb':cu f x l=some ((args,()),()):=by rw[KA]; exact eb
    have hlen:args.length≤100000000:=by omega
    simp only[ea',eb',Option.bind_some,PM hlen hav oo,KU hlen hav,PL hlen hav,KV hlen hav]
    have hfo:=TD (op:=x.2.1) hav hlen
    unfold B6 at hfo ⊢
    rcases oo with o | o | o | o | o | o <;> simp[k6,o] <;> simpa[o] using hfo
   ·
    simp only[k6,hi,hg0,e1,e2,Option.bind_some]
    rw[Pj]
    obtain⟨t,e4,e5⟩:=yW b1
    simp only[zd e3,yX b1,sS,jG,wc b1,eW b1,e4,fw b1,rD,iL,Option.bind_some,show((0,0,({data := #[]}:ByteArray),()):ab)=v0 from rfl,GE b1 (b:=v0) (by decide)]
    rcases oo with o | o | o
    ·simp only[o]
     cases ht:kS (cD n f l a) with
     | false =>
      have:=dn (cD n f l a)
      simp[this,sU]
     | true=>simp[v0,Ut]
    ·simp only[o]
     have h0n:cA v0=true:=by decide
     cases ht:cA (cD n f l a) with
     | false =>
      have:=dn (cD n f l a)
      have ha:i7 (cD n f l a) v0=f6 (cD n f l a):=by
       unfold i7 pP
       rw[if_neg (by rw[ht]; decide)]
      simp[ha,this,sU]
     | true =>
      have hr:=cj ht
      have ha:i7 (cD n f l a) v0=vN (cD n f l a).2.1:=by
       unfold i7 pP
       rw[if_pos ht,if_pos h0n]
       show bnd ((cD n f l a).2.1+0)=_
       rw[Int.add_zero,K1 hr.1 hr.2]
      have hN:an (vN (cD n f l a).2.1)=true:=Bf hr.1 hr.2
      have hneg:DI (vN (cD n f l a).2.1)=vN (-(cD n f l a).2.1):=by
       unfold DI yR pP
       rw[if_pos h0n,if_pos (by unfold cA; rw[hN]; rfl)]
       show bnd (0 - (cD n f l a).2.1)=_
       rw[K1 (by omega) (by omega)]
       congr 1
       omega
      have habs:=RG ht
      have hok:an (vN ((cD n f l a).2.1.natAbs:Int))=true:=Bf (by omega) (by omega)
      simp only[ha,habs,CO (dk hN),hneg,Option.bind_some]
      by_cases hlt:(cD n f l a).2.1 < 0
      ·have:(-(cD n f l a).2.1)=((cD n f l a).2.1.natAbs:Int):=by omega
       simp[vN,hlt,this] at hok ⊢
       exact hok
      ·have:(cD n f l a).2.1=((cD n f l a).2.1.natAbs:Int):=by omega
       simp[vN,hlt] at hok ⊢
       exact⟨this,hok⟩
    ·simp only[o]
     cases ht:mC (cD n f l a) with
     | false =>
      have:=dn (cD n f l a)
      simp[this,sU]
     | true =>
      have hz:=ui e3
      have hb:=K1 (n:=((px (cD n f l a)).size:Int)) (by omega) (by omega)
      have hok:an (vN ((px (cD n f l a)).size:Int))=true:=Bf (by omega) (by omega)
      rw[e5 ht]
      simp[v0,hb,hok]
end
def iO (f:List aa) (l:List ac):ab:=let v:=cD f.length f l ((f.length:Int) - 1); if v.1=0 then vN 0 else v
def PN (f:List aa) (l:List ac):ab:=if fV f=true then(if g8 l=true then iO f l else vE 3) else vE 3
section
variable {f:List aa} {l:List ac} (hl:l.length≤10000000) (hvs : ∀ c∈l,c.2.1.2.2.1.size≤9223372036854775807) (hf:f.length≤10000000) (hs : ∀ x∈f,x.2.2.1.2.2.1.size≤9223372036854775807) (hkl : ∀ x∈f,x.2.2.2.2.2.1.length≤10000000)
include hl hvs hf hs hkl
theorem TE (h:g8 l=true):l.length≤1000:=by
 unfold g8 at h
 simp only[Bool.and_eq_true,decide_eq_true_eq] at h
 omega
theorem DS (h1:fV f=true) (h2:g8 l=true):eG f ((f.length:Int) - 1) l=some ((cD f.length f l ((f.length:Int) - 1),()),())∧iz f ((f.length:Int) - 1) l=some ((cD f.length f l ((f.length:Int) - 1),()),())∧an (cD f.length f l ((f.length:Int) - 1))=true:=by
 have hb:cw (f.length:Int) 1 60=true:=by
  unfold fV at h1
  simp only[Bool.and_eq_true] at h1
  exact h1.1
 have:=bA.1 hb
 exact NY (TE hl hvs hf hs hkl h2) hf (mm h1) (n8 h2) f.length _ (by omega) (by omega) (by omega)
theorem TF:u3 f l=some ((PN f l,()),()):=by
 rw[Ti,nc hf hs hkl,Option.bind_some]
 unfold PN
 cases h1:fV f with
 | false=>simp[dj]
 | true =>
  rw[Bd hl hvs,Option.bind_some]
  cases h2:g8 l with
  | false=>simp[dj]
  | true =>
   obtain⟨e1,e2,e3⟩:=DS hl hvs hf hs hkl h1 h2
   rw[kR (by omega) (by omega),e1]
   unfold iO
   have hb:bnd 0=vN 0:=by decide
   by_cases h0:(cD f.length f l ((f.length:Int) - 1)).1=0 <;> simp[h0,jG,hb]
theorem TG (h1:fV f=true) (h2:g8 l=true):u6 f l=some ((iO f l,()),()):=by
 obtain⟨e1,e2,e3⟩:=DS hl hvs hf hs hkl h1 h2
 rw[Tq,kR (by omega) (by omega),e2]
 unfold iO
 by_cases h0:(cD f.length f l ((f.length:Int) - 1)).1=0 <;> simp[h0,iL]
end
def gp (c:Nat):ak:=if c≤26 then [UInt8.ofNat (64+c)] else [65,UInt8.ofNat (38+c)]
theorem RH : ∀ c:Fin 53,1≤c.val→c.val≤26→strOfNums ([(IntKind.u8.wrap (IntKind.i64.wrap ((IntKind.i64.wrap (65+(c.val:Int))) - 1)))]:List Int)=ba (gp c.val):=by decide +kernel
theorem RJ : ∀ c:Fin 53,1≤c.val → ¬c.val≤26→strOfNums ([(IntKind.u8.wrap (IntKind.i64.wrap ((IntKind.i64.wrap (65+(IntKind.i64.wrap (Int.tdiv (IntKind.i64.wrap ((c.val:Int) - 1)) 26)))) - 1))),(IntKind.u8.wrap (IntKind.i64.wrap (65+(Int.tmod (IntKind.i64.wrap ((c.val:Int) - 1)) 26))))]:List Int)=ba (gp c.val):=by decide +kernel
theorem RL : ∀ c:Fin 53,1≤c.val→strOfNums ([(IntKind.u8.wrap (IntKind.i64.wrap (65+(Int.tmod (IntKind.i64.wrap ((c.val:Int) - 1)) 26))))]:List Int)=ba (if c.val≤26 then gp c.val else(gp c.val).drop 1):=by decide +kernel
theorem RM : ∀ c:Fin 53,1≤c.val→IntKind.i64.wrap (Int.tdiv (IntKind.i64.wrap ((c.val:Int) - 1)) 26)=if c.val≤26 then 0 else 1:=by decide +kernel
theorem CQ {c:Nat} (h1:1≤c) (h2:c≤52):qd (c:Int)=some ((ba (gp c),()),()):=by
 rw[MD,iK]
 simp only[Option.bind_some]
 rw[show cw (c:Int) 1 52=true from bA.2 ⟨by omega,by omega⟩]
 simp only[Bool.not_true,Bool.false_eq_true,if_false]
 by_cases h:c≤26
 ·rw[az (by omega),RH ⟨c,by omega⟩ h1 h]
 ·rw[aw (by omega),RJ ⟨c,by omega⟩ h1 h]
theorem ur (c:Nat):1≤(gp c).length∧(gp c).length≤2:=by
 unfold gp
 split <;> simp
theorem CR {c:Nat} (h1:1≤c) (h2:c≤52):tE (c:Int)=some ((ba (gp c),()),()):=by
 have k1:=RL ⟨c,by omega⟩ h1
 have k2:=RM ⟨c,by omega⟩ h1
 have kl:=ur c
 rw[Mq,lJ]
 simp only[Option.bind_some]
 rw[show cw (c:Int) 1 52=true from bA.2 ⟨by omega,by omega⟩]
 simp only[Bool.not_true,Bool.false_eq_true,if_false]
 simp only at k1 k2
 rw[mj,az (by omega),k1,k2]
 by_cases h:c≤26
 ·rw[if_pos h,if_pos h,br (by simp only[List.length_nil]; omega),mj,aw (by decide),List.append_nil]
 ·rw[if_neg h,if_neg h,br (by simp only[List.length_nil,List.length_drop]; omega),mj,az (by decide),List.append_nil]
  have k3':strOfNums ([(IntKind.u8.wrap (IntKind.i64.wrap (65+(Int.tmod (IntKind.i64.wrap ((1:Int) - 1)) 26))))]:List Int)=ba [65]:=by decide +kernel
  have k4':IntKind.i64.wrap (Int.tdiv (IntKind.i64.wrap ((1:Int) - 1)) 26)=0:=by decide +kernel
  rw[k3',k4',br (by simp only[List.length_cons,List.length_nil,List.length_drop]; omega),mj,aw (by decide)]
  congr 3
  unfold gp
  rw[if_neg h]
  rfl
theorem DT {P:ByteArray→Int→Option ((Int×Unit)×Unit)} {C:Int→Option ((ByteArray×Unit)×Unit)}
  (hP : ∀ x n,P x n=if decide (n≤52)=true then(C n).bind fun z1=>(if(ByteArray.toList z1.1.1 == ByteArray.toList x)=true then some ((n,()),()) else P x (IntKind.i64.wrap (n+1))) else some ((0,()),()))
  (hC : ∀ c:Nat,1≤c→c≤52→C (c:Int)=some ((ba (gp c),()),())) (w:ak) : ∀ k n:Nat,n+k=53→1≤n→P (ba w) (n:Int)=some ((((((List.range' n k).find? fun m=>decide (gp m=w)).getD 0:Nat):Int),()),())
 | 0,n,h,_=>by
  rw[hP,aw (by omega)]
  rfl
 | k+1,n,h,h1=>by
  rw[hP,az (by omega),hC n h1 (by omega)]
  simp only[Option.bind_some,dD,List.range'_succ,List.find?_cons]
  by_cases he:gp n=w
  ·simp[he]
  ·rw[if_neg (by simpa using he),wr (by omega) (by omega)]
   simp only[he,decide_false]
   exact DT hP hC w k (n+1) (by omega) (by omega)
def jX (w:ak):Nat:=((List.range' 1 52).find? fun m=>decide (gp m=w)).getD 0
theorem MR (w:ak):Dr (ba w)=some ((((jX w:Nat):Int),()),()):=by
 rw[ME]
 exact DT (fun x n=>GB) (fun c h1 h2=>CQ h1 h2) w 52 1 rfl (Nat.le_refl _)
theorem MS (w:ak):qb (ba w)=some ((((jX w:Nat):Int),()),()):=by
 rw[Mr]
 exact DT (fun x n=>GA) (fun c h1 h2=>CR h1 h2) w 52 1 rfl (Nat.le_refl _)
theorem FD : ∀ m:Fin 53,1≤m.val→jX (gp m.val)=m.val:=by decide +kernel
theorem RN {w:ak} (h:1≤jX w):jX w≤52∧gp (jX w)=w:=by
 unfold jX at h ⊢
 cases hf:(List.range' 1 52).find? fun m=>decide (gp m=w) with
 | none=>rw[hf] at h; simp at h
 | some m =>
  have h1:=List.find?_some hf
  have h2:=List.mem_of_find?_eq_some hf
  rw[List.mem_range'_1] at h2
  simp only[Option.getD_some]
  exact⟨by omega,by simpa using h1⟩
def qm (b:Bool):ak:=if b=true then [36] else []
def xK (c r:Nat) (fc fr:Bool):ak:=qm fc++(gp c++(qm fr++Lib.decDigits r))
def mv (p:bS):ak:=xK p.1.1.toNat p.1.2.1.toNat p.2.1 p.2.2.1
theorem vD {r:al}:ca r=true↔(1≤r.1∧r.1≤52)∧1≤r.2.1∧r.2.1≤99:=by
 unfold ca
 rw[Bool.and_eq_true,bA,bA]
theorem sV {r:Nat} (h:r≤99):(Lib.decDigits r).length≤2:=Fm 1 r (by omega)
theorem ne (p:bS):mc p=some ((if ca p.1=true then ba (mv p) else ba [],()),()):=by
 rw[IQ,rC]
 simp only[Option.bind_some]
 cases hr:ca p.1 with
 | false=>rfl
 | true =>
  simp only[Bool.not_true,Bool.false_eq_true,if_false,if_true]
  obtain⟨⟨c,r,u⟩,fc,fr,u'⟩:=p
  obtain⟨⟨h1,h2⟩,h3,h4⟩:=vD.1 hr
  simp only at h1 h2 h3 h4 ⊢
  obtain⟨c,rfl⟩ : ∃ n:Nat,c=n:=⟨c.toNat,by omega⟩
  obtain⟨r,rfl⟩ : ∃ n:Nat,r=n:=⟨r.toNat,by omega⟩
  have kc:=ur c
  have kr:=sV (r:=r) (by omega)
  have e1:qd (c:Int)=some ((ba (gp c),()),()):=CQ (by omega) (by omega)
  have e2:jR (r:Int)=some ((ba (Lib.decDigits r),()),()):=by rw[v7 (by omega) (by omega),qj]
  unfold mv xK
  simp only[Int.toNat_natCast]
  cases fc <;> cases fr <;> simp only[e1,e2,Option.bind_some,if_true,if_false,Bool.false_eq_true,qm]
  all_goals
   repeat rw[br (by first | omega | (simp only[List.length_append,List.length_cons,List.length_nil]; omega))]
   simp
theorem rV (p:bS):oP p=some ((if ca p.1=true then ba (mv p) else ba [],()),()):=by
 rw[II,n6]
 simp only[Option.bind_some]
 cases hr:ca p.1 with
 | false=>rfl
 | true =>
  simp only[Bool.not_true,Bool.false_eq_true,if_false,if_true]
  obtain⟨⟨c,r,u⟩,fc,fr,u'⟩:=p
  obtain⟨⟨h1,h2⟩,h3,h4⟩:=vD.1 hr
  simp only at h1 h2 h3 h4 ⊢
  obtain⟨c,rfl⟩ : ∃ n:Nat,c=n:=⟨c.toNat,by omega⟩
  obtain⟨r,rfl⟩ : ∃ n:Nat,r=n:=⟨r.toNat,by omega⟩
  have kc:=ur c
  have kr:=sV (r:=r) (by omega)
  have e1:tE (c:Int)=some ((ba (gp c),()),()):=CR (by omega) (by omega)
  have e2:mL (r:Int)=some ((ba (Lib.decDigits r),()),()):=by rw[HX (by omega) (by omega),qj]
  unfold mv xK
  simp only[Int.toNat_natCast]
  cases fc <;> cases fr <;> simp only[e1,e2,Option.bind_some,if_true,if_false,Bool.false_eq_true,qm]
  all_goals
   repeat rw[br (by first | omega | (simp only[List.length_append,List.length_cons,List.length_nil]; omega))]
   simp
theorem CS {w:ak} (hw:w.length≤18) : ∀(ys pre:ak),w=pre++ys→pre.all dE=true→nY (ba w) (bm 0 pre:Nat) (pre.length:Int)=some ((if ys.all dE=true then((bm 0 w:Nat):Int) else 0,ys.all dE,()),())
 | [],pre,h,hp=>by
  rw[List.append_nil] at h
  subst h
  rw[AX,aw (by rw[aN]; omega)]
  rfl
 | y :: ys,pre,h,hp=>by
  have hl:pre.length < w.length:=by rw[h]; simp
  rw[AX,az (by rw[aN]; omega),kk h]
  by_cases h1:y.toNat < 48
  ·have hd:dE y=false:=by simp[dE]; omega
   rw[az (by omega)]
   simp[hd]
  ·rw[aw (by omega),kk h]
   by_cases h2:57 < y.toNat
   ·have hd:dE y=false:=by simp[dE]; omega
    rw[az (by omega)]
    simp[hd]
   ·have hd:dE y=true:=by simp[dE]; omega
    rw[aw (by omega),kk h]
    have hv:=B4 pre 0 hp
    have hv2:10 ^ pre.length≤10 ^ 17:=Nat.pow_le_pow_right (by decide) (by omega)
    have hv3:bm 0 pre < 100000000000000000:=by
     rw[Nat.zero_add,Nat.one_mul] at hv
     exact Nat.lt_of_lt_of_le hv hv2
    clear hv hv2
    have e1:IntKind.u8.wrap ((y.toNat:Int) - 48)=((y.toNat - 48:Nat):Int):=by rw[Wu (by omega) (by omega)]; omega
    have w1:IntKind.i64.wrap (((bm 0 pre:Nat):Int)*10)=((bm 0 pre:Nat):Int)*10:=wr (by omega) (by omega)
    have w2:IntKind.i64.wrap ((y.toNat - 48:Nat):Int)=((y.toNat - 48:Nat):Int):=wr (by omega) (by omega)
    rw[e1,w1,w2,wr (n:=((bm 0 pre:Nat):Int)*10+((y.toNat - 48:Nat):Int)) (by omega) (by omega),wr (n:=(pre.length:Int)+1) (by omega) (by omega)]
    have e2:((bm 0 pre:Nat):Int)*10+((y.toNat - 48:Nat):Int)=((bm 0 (pre++[y]):Nat):Int):=by rw[Ba]; omega
    have e3:(pre.length:Int)+1=((pre++[y]).length:Int):=by simp
    rw[e2,e3,CS hw ys (pre++[y]) (by rw[h]; simp) (by simp[hp,hd])]
    simp[hd]
def cF (w:ak) (m:Nat):Bool:=jy w && decide (w.length≤m)
theorem Bi (w:ak) {m:Nat} (hm:m≤18):cM (ba w) (m:Int)=some ((if cF w m=true then((bm 0 w:Nat):Int) else 0,cF w m,()),()):=by
 rw[Re,aN]
 cases w with
 | nil =>
  rw[az (by simp)]
  rfl
 | cons y ys =>
  have hlen:(y :: ys:ak).length=ys.length+1:=rfl
  rw[aw (by omega)]
  by_cases h:(y :: ys:ak).length≤m
  ·have hle:decide ((y :: ys:ak).length≤m)=true:=decide_eq_true h
   rw[aw (by omega),rG]
   have hl:=CS (w:=y :: ys) (by omega) (y :: ys) [] rfl rfl
   have hl:nY (ba (y :: ys)) 0 0=_:=hl
   have h0n:decide (1≤(y :: ys:ak).length)=true:=decide_eq_true (by omega)
   by_cases h0:y=48
   ·subst h0
    rw[if_pos (by rfl)]
    by_cases h1:ys.length=0
    ·rw[aw (by omega),hl]
     have h1':decide ((48 :: ys:ak).length=1)=true:=decide_eq_true (by omega)
     have e:cF (48 :: ys) m=(48 :: ys:ak).all dE:=by
      unfold cF jy
      rw[hle,h0n,h1']
      simp
     rw[e]
    ·rw[az (by omega)]
     have h1':decide ((48 :: ys:ak).length=1)=false:=decide_eq_false (by omega)
     have e:cF (48 :: ys) m=false:=by
      unfold cF jy
      rw[h1']
      simp
     rw[e]
     rfl
   ·have h0' : ¬((y.toNat:Int) == 48)=true:=by
     simp only[beq_iff_eq]
     intro e
     apply h0
     apply UInt8.toNat_inj.1
     show y.toNat=48
     omega
    rw[if_neg h0',hl]
    have e:cF (y :: ys) m=(y :: ys:ak).all dE:=by
     have h2:decide ((y :: ys:ak).head? = some 48)=false:=decide_eq_false (by simpa using h0)
     unfold cF jy
     rw[hle,h0n,h2]
     simp
    rw[e]
  ·rw[az (by omega)]
   have e:cF (y :: ys) m=false:=by
    unfold cF
    rw[decide_eq_false h]
    simp
   rw[e]
   rfl
theorem DU {w:ak} {m:Nat} (h:cF w m=true):Lib.decDigits (bm 0 w)=w∧w.length≤m:=by
 unfold cF at h
 rw[Bool.and_eq_true,decide_eq_true_eq] at h
 exact⟨(NU w h.1).1,h.2⟩
theorem Bj {u m:Nat} (h:(Lib.decDigits u).length≤m):cF (Lib.decDigits u) m=true:=by
 unfold cF
 rw[DP]
 simpa using h
end Go.Proofs.YtnodjiikdgmeaaaGreatDoor.Abs
