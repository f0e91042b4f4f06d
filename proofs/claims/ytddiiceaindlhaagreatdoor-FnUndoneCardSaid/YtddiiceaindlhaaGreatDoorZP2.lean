/- Plain laws: texts as rows of bytes; what stands ahead; decimals. -/
import Derived.Test.YtddiiceaindlhaaGreatDoorZP1
import Derived.Lib.IndexBytes
set_option linter.unusedVariables false
set_option linter.unusedSimpArgs false
set_option linter.unusedSectionVars false
namespace Go.Proofs.YtddiiceaindlhaaGreatDoor.Abs
open Go
abbrev ac:=List UInt8
abbrev lb (s:ByteArray):ac:=s.data.toList
abbrev ba (l:ac):ByteArray:=⟨l.toArray⟩
theorem dw (l:ac):lb (ba l)=l:=by simp
theorem f0 (s:ByteArray):ba (lb s)=s:=by cases s; simp
theorem aq (l:ac):(ba l).size=l.length:=by
 show(ba l).data.size=_
 simp
theorem pP (s:ByteArray):(lb s).length=s.size:=by
 rw[Array.length_toList]
 rfl
theorem qS {a b:ac} (h:ba a=ba b):a=b:=by
 rw[←dw a,h,dw]
theorem TV {a b:ac}:(ba a=ba b)=(a=b):=propext ⟨qS,fun h=>by rw[h]⟩
theorem M7 (l:ac) (i j:Nat):(ba l).extract i j=ba ((l.take j).drop i):=by
 apply wz
 simp[ByteArray.data_extract,List.extract_eq_take_drop,List.drop_take]
theorem mC (a b:ac):ba a++ba b=ba (a++b):=by
 apply wz
 simp
theorem cT {a b:ac}:(ByteArray.toList (ba a) == ByteArray.toList (ba b))=decide (a=b):=by
 rw[ol,Bool.eq_iff_iff,decide_eq_true_eq,decide_eq_true_eq,TV]
theorem OU (l:ac):nJ (ba l)=l.map fun b=>(b.toNat:Int):=by simp[nJ]
theorem jY {β:Type} {l pre ys:ac} {y:UInt8} {f:Int→Option β} (h:l=pre++y :: ys):et (ba l) (pre.length:Int) f=f (y.toNat:Int):=by
 have:=zD (β:=β) (s:=ba l) (pre:=pre.map fun b=>(b.toNat:Int)) (ys:=ys.map fun b=>(b.toNat:Int)) (y:=(y.toNat:Int)) (f:=f) (by rw[OU,h]; simp)
 rw[List.length_map] at this
 exact this
theorem o0 {β:Type} {y:UInt8} {ys:ac} {f:Int→Option β}:et (ba (y :: ys)) 0 f=f (y.toNat:Int):=jY (pre:=[]) rfl
theorem Eb {β:Type} {l:ac} {n:Nat} {f:ByteArray→Option β} (h:n≤l.length):Br (ba l) (n:Int) f=f (ba (l.take n)):=by
 rw[S9 (nn _) (by rw[aq]; omega),M7]
 simp
theorem fy {β:Type} {l:ac} {n:Nat} {f:ByteArray→Option β} (h:n≤l.length):il (ba l) (n:Int) f=f (ba (l.drop n)):=by
 rw[Ta (nn _) (by rw[aq]; omega),M7,aq]
 simp
theorem wA {β:Type} {l:ac} {i j:Nat} {f:ByteArray→Option β} (h:i≤j) (hj:j≤l.length):tY (ba l) (i:Int) (j:Int) f=f (ba ((l.take j).drop i)):=by
 rw[Tb (nn _) (by omega) (by rw[aq]; omega),M7]
 simp
theorem bm {β:Type} {a b:ac} {f:ByteArray→Option β} (h:a.length+b.length≤9223372036854775807):cats (ba a) (ba b) f=f (ba (a++b)):=by
 rw[nI (by rw[aq,aq]; exact h),mC]
theorem vh (s p:ac) (hs:s.length≤9223372036854775807):eR (ba s) (ba p)=some ((p.isPrefixOf s,()),()):=by
 rw[tc,aq,aq]
 by_cases h:p.length≤s.length
 ·rw[aI (by omega),Eb h,cT]
  congr 3
  rw[Bool.eq_iff_iff,decide_eq_true_eq,List.isPrefixOf_iff_prefix,List.prefix_iff_eq_take]
  exact eq_comm
 ·rw[aE (by omega)]
  congr 3
  symm
  rw[Bool.eq_false_iff]
  intro hp
  exact h (List.isPrefixOf_iff_prefix.1 hp).length_le
theorem qU (s p:ac) (hs:s.length≤9223372036854775807):ee (ba s) (ba p)=some ((p.isPrefixOf s,()),()):=by
 rw[xA,vh s p hs]
 rfl
theorem qV (s p:ac) (hs:s.length≤9223372036854775807):cl (ba s) (ba p)=some ((ba (if p.isPrefixOf s=true then s.drop p.length else s),p.isPrefixOf s,()),()):=by
 rw[xz,td,vh s p hs]
 simp only[Option.bind_some]
 cases hp:p.isPrefixOf s with
 | false=>rfl
 | true =>
  have:=(List.isPrefixOf_iff_prefix.1 hp).length_le
  simp only[Bool.not_true,Bool.false_eq_true,if_false,if_true,aq]
  rw[fy this]
  rfl
theorem vi (s c:ac) (hc:sG (ba c)=true):gZ (ba s) (ba c)=some ((ba (s.dropWhile (c.contains ·)),()),()):=by
 rw[yB]
 show(if sG (ba c)=true then some (((⟨(Lib.trimLeftS (lb (ba s)) (lb (ba c))).toArray⟩:ByteArray),()),()) else none)=_
 rw[if_pos hc,dw,dw]
 rfl
theorem zK {α:Type} (p:α→Bool) (l:List α):l.take (l.length - (l.dropWhile p).length)=l.takeWhile p∧l.drop (l.length - (l.dropWhile p).length)=l.dropWhile p∧(l.dropWhile p).length≤l.length:=by
 have h:=List.takeWhile_append_dropWhile (p:=p) (l:=l)
 have hl:(l.takeWhile p).length+(l.dropWhile p).length=l.length:=by rw[←List.length_append,h]
 have e:l.length - (l.dropWhile p).length=(l.takeWhile p).length:=by omega
 refine⟨?_,?_,by omega⟩
 ·rw[e]
  have:=List.take_left' (l₁:=l.takeWhile p) (l₂:=l.dropWhile p) rfl
  rw[h] at this
  exact this
 ·rw[e]
  have:=List.drop_left' (l₁:=l.takeWhile p) (l₂:=l.dropWhile p) rfl
  rw[h] at this
  exact this
theorem f9 (c:UInt8) (l:ac) (a:UInt8):([a]:ac).isPrefixOf (c :: l)=decide (c=a):=by
 show(a == c && ([]:ac).isPrefixOf l)=_
 rw[show([]:ac).isPrefixOf l=true by cases l <;> rfl,Bool.and_true,Bool.eq_iff_iff,beq_iff_eq,decide_eq_true_eq]
 exact eq_comm
theorem Cx (c:UInt8) (t:ac):([c]:ac).isPrefixOf t=decide (t.head? = some c):=by
 cases t with
 | nil=>rfl
 | cons y t=>rw[f9]; simp
theorem Cy (y:UInt8) (t:ac) (a c:UInt8):([a,c]:ac).isPrefixOf (y :: t)=(decide (y=a) && decide (t.head? = some c)):=by
 show(a == y && ([c]:ac).isPrefixOf t)=_
 rw[Cx]
 congr 1
 rw[Bool.eq_iff_iff,beq_iff_eq,decide_eq_true_eq]
 exact eq_comm
theorem Cz (y c:UInt8) {n:Int} (hn:(c.toNat:Int)=n):((y.toNat:Int) == n)=decide (y=c):=by
 rw[Bool.eq_iff_iff,beq_iff_eq,decide_eq_true_eq,←hn]
 constructor
 ·intro e
  apply UInt8.toNat_inj.1
  omega
 ·intro e
  rw[e]
theorem o4 {p:UInt8→Prop} [DecidablePred p] (h : ∀ n:Fin 256,p (UInt8.ofNat n.val)) (c:UInt8):p c:=by
 have:=h ⟨c.toNat,c.toNat_lt⟩
 simpa using this
def eA (c:UInt8):Bool:=decide (65≤c.toNat) && decide (c.toNat≤90)
def dh (c:UInt8):Bool:=decide (48≤c.toNat) && decide (c.toNat≤57)
def bo (a:Nat) (l:ac):Nat:=l.foldl (fun a c=>a*10+(c.toNat - 48)) a
theorem zL (a:Nat) (l:ac) (c:UInt8):bo a (l++[c])=bo a l*10+(c.toNat - 48):=by simp[bo]
theorem Ec {u:Nat} (h:u < 10):Lib.decDigits u=[UInt8.ofNat (48+u)]:=Lib.decDigits_one h
theorem JE {u:Nat} (h : ¬u < 10):Lib.decDigits u=Lib.decDigits (u / 10)++[UInt8.ofNat (48+u % 10)]:=by
 rw[Lib.decDigits,dif_neg h]
theorem M8 {x:Nat} (h:x < 10):(UInt8.ofNat (48+x)).toNat=48+x:=by
 rw[UInt8.toNat_ofNat']
 omega
theorem OV {m x:ac} (h:m≠[]):(m++x).head? = m.head? := by
 cases m with
 | nil=>exact absurd rfl h
 | cons a m=>rfl
def iI (l:ac):Bool:=l.all dh && decide (1≤l.length) && (decide (l.length=1) || !decide (l.head? = some 48))
theorem JF : ∀(n u:Nat),u≤n→bo 0 (Lib.decDigits u)=u∧iI (Lib.decDigits u)=true∧(10≤u→2≤(Lib.decDigits u).length)∧(1≤u→(Lib.decDigits u).head? ≠ some 48)
 | n,u,hn=>by
  by_cases h:u < 10
  ·rw[Ec h]
   have e:=M8 h
   refine⟨by simp[bo]; omega,?_,fun h2=>by omega,fun h1 h2 => ?_⟩
   ·simp only[iI,dh,List.all_cons,List.all_nil,e]
    simp
    omega
   ·simp only[List.head?_cons,Option.some.injEq] at h2
    rw[h2] at e
    have:(48:UInt8).toNat=48:=rfl
    omega
  ·cases n with
   | zero=>omega
   | succ n =>
    obtain⟨h1,h2,h3,h4⟩:=JF n (u / 10) (by omega)
    rw[JE h,zL,h1,M8 (Nat.mod_lt _ (by decide))]
    have h4:=h4 (by omega)
    simp only[iI,Bool.and_eq_true,decide_eq_true_eq] at h2
    obtain⟨⟨k1,k2⟩,k3⟩:=h2
    have hne:Lib.decDigits (u / 10)≠[]:=by
     intro e
     rw[e] at k2
     simp at k2
    have hh:(Lib.decDigits (u / 10)++[UInt8.ofNat (48+u % 10)]).head? ≠ some 48:=by
     rw[OV hne]
     exact h4
    refine⟨by omega,?_,fun _=>by rw[List.length_append,List.length_singleton]; omega,fun _=>hh⟩
    simp only[iI,List.all_append,k1,List.all_cons,List.all_nil,dh,M8 (Nat.mod_lt u (show 0 < 10 by decide)),Bool.and_eq_true,Bool.or_eq_true,decide_eq_true_eq]
    refine⟨⟨by simp; omega,by simp⟩,.inr (by simpa using hh)⟩
theorem pQ (u:Nat):bo 0 (Lib.decDigits u)=u:=(JF u u (Nat.le_refl _)).1
theorem pR (u:Nat):iI (Lib.decDigits u)=true:=(JF u u (Nat.le_refl _)).2.1
theorem LM {c:UInt8} (h:dh c=true):UInt8.ofNat (48+(c.toNat - 48))=c:=by
 simp only[dh,Bool.and_eq_true,decide_eq_true_eq] at h
 have:48+(c.toNat - 48)=c.toNat:=by omega
 rw[this]
 simp
theorem LN : ∀(l:ac),iI l=true→Lib.decDigits (bo 0 l)=l∧(l.head? ≠ some 48→1≤bo 0 l):=by
 intro l
 induction hn:l.length using Nat.strongRecOn generalizing l with
 | ind n ih =>
  intro h
  rcases List.eq_nil_or_concat l with rfl | ⟨m,c,rfl⟩
  ·simp[iI] at h
  ·rw[List.concat_eq_append] at *
   simp only[iI,Bool.and_eq_true,Bool.or_eq_true,decide_eq_true_eq,List.all_append,List.all_cons,List.all_nil,Bool.and_true] at h
   obtain⟨⟨⟨k1,k0⟩,k2⟩,k3⟩:=h
   have kd:48≤c.toNat∧c.toNat≤57:=by simpa[dh] using k0
   rw[zL]
   by_cases hm:m=[]
   ·subst hm
    have e:bo 0 []*10+(c.toNat - 48)=c.toNat - 48:=by simp[bo]
    rw[e,Ec (by omega),LM k0]
    refine⟨rfl,fun hh => ?_⟩
    have:c.toNat≠48:=by
     intro e
     apply hh
     simp only[List.nil_append,List.head?_cons]
     congr 1
     exact UInt8.toNat_inj.1 e
    omega
   ·have hm1:1≤m.length:=List.length_pos_iff.2 hm
    have hh:(m++[c]).head? = m.head? := OV hm
    have k4:m.head? ≠ some 48:=by
     rcases k3 with k3 | k3
     ·rw[List.length_append,List.length_singleton] at k3
      omega
     ·rw[hh] at k3
      simpa using k3
    obtain⟨i1,i2⟩:=ih m.length (by rw[←hn,List.length_append,List.length_singleton]; omega) m rfl (by
     simp only[iI,Bool.and_eq_true,Bool.or_eq_true,decide_eq_true_eq]
     exact⟨⟨k1,hm1⟩,.inr (by simpa using k4)⟩)
    have i2:=i2 k4
    refine⟨?_,fun _=>by omega⟩
    rw[JE (by omega)]
    have e1:(bo 0 m*10+(c.toNat - 48)) / 10=bo 0 m:=by omega
    have e2:(bo 0 m*10+(c.toNat - 48)) % 10=c.toNat - 48:=by omega
    rw[e1,e2,i1,LM k0]
theorem ll (u:Nat):dp (u:Int)=ba (Lib.decDigits u):=uB u
theorem AO : ∀(l:ac) (a:Nat),l.all dh=true→bo a l < (a+1)*10 ^ l.length
 | [],a,_=>by simp[bo]
 | c :: l,a,h=>by
  simp only[List.all_cons,Bool.and_eq_true] at h
  have kd:48≤c.toNat∧c.toNat≤57:=by simpa[dh] using h.1
  have:=AO l (a*10+(c.toNat - 48)) h.2
  show bo (a*10+(c.toNat - 48)) l < _
  refine Nat.lt_of_lt_of_le this ?_
  rw[List.length_cons,Nat.pow_succ]
  have:a*10+(c.toNat - 48)+1≤(a+1)*10:=by omega
  calc (a*10+(c.toNat - 48)+1)*10 ^ l.length≤((a+1)*10)*10 ^ l.length:=Nat.mul_le_mul_right _ this
   _=(a+1)*(10 ^ l.length*10):=by rw[Nat.mul_assoc,Nat.mul_comm 10]
end Go.Proofs.YtddiiceaindlhaaGreatDoor.Abs
set_option linter.unusedVariables false
set_option linter.unusedSimpArgs false
set_option linter.unusedSectionVars false
namespace Go.Proofs.YtddiiceaindlhaaGreatDoor.Abs
open Go
def fP (c:Nat):ac:=if c≤26 then [UInt8.ofNat (64+c)] else [65,UInt8.ofNat (38+c)]
theorem OW : ∀ c:Fin 53,1≤c.val→c.val≤26→strOfNums ([(IntKind.u8.wrap (IntKind.i64.wrap ((IntKind.i64.wrap (65+(c.val:Int))) - 1)))]:List Int)=ba (fP c.val):=by decide +kernel
theorem OX : ∀ c:Fin 53,1≤c.val → ¬c.val≤26→strOfNums ([(IntKind.u8.wrap (IntKind.i64.wrap ((IntKind.i64.wrap (65+(IntKind.i64.wrap (Int.tdiv (IntKind.i64.wrap ((c.val:Int) - 1)) 26)))) - 1))),(IntKind.u8.wrap (IntKind.i64.wrap (65+(Int.tmod (IntKind.i64.wrap ((c.val:Int) - 1)) 26))))]:List Int)=ba (fP c.val):=by decide +kernel
theorem OY : ∀ c:Fin 53,1≤c.val→strOfNums ([(IntKind.u8.wrap (IntKind.i64.wrap (65+(Int.tmod (IntKind.i64.wrap ((c.val:Int) - 1)) 26))))]:List Int)=ba (if c.val≤26 then fP c.val else(fP c.val).drop 1):=by decide +kernel
theorem OZ : ∀ c:Fin 53,1≤c.val→IntKind.i64.wrap (Int.tdiv (IntKind.i64.wrap ((c.val:Int) - 1)) 26)=if c.val≤26 then 0 else 1:=by decide +kernel
theorem BS {c:Nat} (h1:1≤c) (h2:c≤52):pK (c:Int)=some ((ba (fP c),()),()):=by
 rw[KT,jG]
 simp only[Option.bind_some]
 rw[show bz (c:Int) 1 52=true from bd.2 ⟨by omega,by omega⟩]
 simp only[Bool.not_true,Bool.false_eq_true,if_false]
 by_cases h:c≤26
 ·rw[aI (by omega),OW ⟨c,by omega⟩ h1 h]
 ·rw[aE (by omega),OX ⟨c,by omega⟩ h1 h]
theorem pT (c:Nat):1≤(fP c).length∧(fP c).length≤2:=by
 unfold fP
 split <;> simp
theorem BT {c:Nat} (h1:1≤c) (h2:c≤52):sP (c:Int)=some ((ba (fP c),()),()):=by
 have k1:=OY ⟨c,by omega⟩ h1
 have k2:=OZ ⟨c,by omega⟩ h1
 have kl:=pT c
 rw[KG,eJ]
 simp only[Option.bind_some]
 rw[show bz (c:Int) 1 52=true from bd.2 ⟨by omega,by omega⟩]
 simp only[Bool.not_true,Bool.false_eq_true,if_false]
 simp only at k1 k2
 rw[lX,aI (by omega),k1,k2]
 by_cases h:c≤26
 ·rw[if_pos h,if_pos h,bm (by simp only[List.length_nil]; omega),lX,aE (by decide),List.append_nil]
 ·rw[if_neg h,if_neg h,bm (by simp only[List.length_nil,List.length_drop]; omega),lX,aI (by decide),List.append_nil]
  have k3':strOfNums ([(IntKind.u8.wrap (IntKind.i64.wrap (65+(Int.tmod (IntKind.i64.wrap ((1:Int) - 1)) 26))))]:List Int)=ba [65]:=by decide +kernel
  have k4':IntKind.i64.wrap (Int.tdiv (IntKind.i64.wrap ((1:Int) - 1)) 26)=0:=by decide +kernel
  rw[k3',k4',bm (by simp only[List.length_cons,List.length_nil,List.length_drop]; omega),lX,aE (by decide)]
  congr 3
  unfold fP
  rw[if_neg h]
  rfl
theorem CA {P:ByteArray→Int→Option ((Int×Unit)×Unit)} {C:Int→Option ((ByteArray×Unit)×Unit)}
  (hP : ∀ x n,P x n=if decide (n≤52)=true then(C n).bind fun z1=>(if(ByteArray.toList z1.1.1 == ByteArray.toList x)=true then some ((n,()),()) else P x (IntKind.i64.wrap (n+1))) else some ((0,()),()))
  (hC : ∀ c:Nat,1≤c→c≤52→C (c:Int)=some ((ba (fP c),()),())) (w:ac) : ∀ k n:Nat,n+k=53→1≤n→P (ba w) (n:Int)=some ((((((List.range' n k).find? fun m=>decide (fP m=w)).getD 0:Nat):Int),()),())
 | 0,n,h,_=>by
  rw[hP,aE (by omega)]
  rfl
 | k+1,n,h,h1=>by
  rw[hP,aI (by omega),hC n h1 (by omega)]
  simp only[Option.bind_some,cT,List.range'_succ,List.find?_cons]
  by_cases he:fP n=w
  ·simp[he]
  ·rw[if_neg (by simpa using he),wr (by omega) (by omega)]
   simp only[he,decide_false]
   exact CA hP hC w k (n+1) (by omega) (by omega)
def jH (w:ac):Nat:=((List.range' 1 52).find? fun m=>decide (fP m=w)).getD 0
theorem K5 (w:ac):Ck (ba w)=some ((((jH w:Nat):Int),()),()):=by
 rw[KU]
 exact CA (fun x n=>Fy) (fun c h1 h2=>BS h1 h2) w 52 1 rfl (Nat.le_refl _)
theorem K6 (w:ac):pI (ba w)=some ((((jH w:Nat):Int),()),()):=by
 rw[KL]
 exact CA (fun x n=>Fx) (fun c h1 h2=>BT h1 h2) w 52 1 rfl (Nat.le_refl _)
theorem Ed : ∀ m:Fin 53,1≤m.val→jH (fP m.val)=m.val:=by decide +kernel
theorem O0 {w:ac} (h:1≤jH w):jH w≤52∧fP (jH w)=w:=by
 unfold jH at h ⊢
 cases hf:(List.range' 1 52).find? fun m=>decide (fP m=w) with
 | none=>rw[hf] at h; simp at h
 | some m =>
  have h1:=List.find?_some hf
  have h2:=List.mem_of_find?_eq_some hf
  rw[List.mem_range'_1] at h2
  simp only[Option.getD_some]
  exact⟨by omega,by simpa using h1⟩
def o5 (b:Bool):ac:=if b=true then [36] else []
def rx (c r:Nat) (fc fr:Bool):ac:=o5 fc++(fP c++(o5 fr++Lib.decDigits r))
def eV (p:aA):ac:=rx p.1.1.toNat p.1.2.1.toNat p.2.1 p.2.2.1
theorem bA {r:ai}:ao r=true↔(1≤r.1∧r.1≤52)∧1≤r.2.1∧r.2.1≤99:=by
 unfold ao
 rw[Bool.and_eq_true,bd,bd]
theorem rY {r:Nat} (h:r≤99):(Lib.decDigits r).length≤2:=D3 1 r (by omega)
theorem mU (p:aA):lK p=some ((if ao p.1=true then ba (eV p) else ba [],()),()):=by
 rw[HG,nL]
 simp only[Option.bind_some]
 cases hr:ao p.1 with
 | false=>rfl
 | true =>
  simp only[Bool.not_true,Bool.false_eq_true,if_false,if_true]
  obtain⟨⟨c,r,u⟩,fc,fr,u'⟩:=p
  obtain⟨⟨h1,h2⟩,h3,h4⟩:=bA.1 hr
  simp only at h1 h2 h3 h4 ⊢
  obtain⟨c,rfl⟩ : ∃ n:Nat,c=n:=⟨c.toNat,by omega⟩
  obtain⟨r,rfl⟩ : ∃ n:Nat,r=n:=⟨r.toNat,by omega⟩
  have kc:=pT c
  have kr:=rY (r:=r) (by omega)
  have e1:pK (c:Int)=some ((ba (fP c),()),()):=BS (by omega) (by omega)
  have e2:jx (r:Int)=some ((ba (Lib.decDigits r),()),()):=by rw[vg (by omega) (by omega),ll]
  unfold eV rx
  simp only[Int.toNat_natCast]
  cases fc <;> cases fr <;> simp only[e1,e2,Option.bind_some,if_true,if_false,Bool.false_eq_true,o5]
  all_goals
   repeat rw[bm (by first | omega | (simp only[List.length_append,List.length_cons,List.length_nil]; omega))]
   simp
theorem mV (p:aA):cI p=some ((if ao p.1=true then ba (eV p) else ba [],()),()):=by
 rw[Hq,gG]
 simp only[Option.bind_some]
 cases hr:ao p.1 with
 | false=>rfl
 | true =>
  simp only[Bool.not_true,Bool.false_eq_true,if_false,if_true]
  obtain⟨⟨c,r,u⟩,fc,fr,u'⟩:=p
  obtain⟨⟨h1,h2⟩,h3,h4⟩:=bA.1 hr
  simp only at h1 h2 h3 h4 ⊢
  obtain⟨c,rfl⟩ : ∃ n:Nat,c=n:=⟨c.toNat,by omega⟩
  obtain⟨r,rfl⟩ : ∃ n:Nat,r=n:=⟨r.toNat,by omega⟩
  have kc:=pT c
  have kr:=rY (r:=r) (by omega)
  have e1:sP (c:Int)=some ((ba (fP c),()),()):=BT (by omega) (by omega)
  have e2:dC (r:Int)=some ((ba (Lib.decDigits r),()),()):=by rw[zH (by omega) (by omega),ll]
  unfold eV rx
  simp only[Int.toNat_natCast]
  cases fc <;> cases fr <;> simp only[e1,e2,Option.bind_some,if_true,if_false,Bool.false_eq_true,o5]
  all_goals
   repeat rw[bm (by first | omega | (simp only[List.length_append,List.length_cons,List.length_nil]; omega))]
   simp
theorem BU {w:ac} (hw:w.length≤18) : ∀(ys pre:ac),w=pre++ys→pre.all dh=true→nG (ba w) (bo 0 pre:Nat) (pre.length:Int)=some ((if ys.all dh=true then((bo 0 w:Nat):Int) else 0,ys.all dh,()),())
 | [],pre,h,hp=>by
  rw[List.append_nil] at h
  subst h
  rw[zA,aE (by rw[aq]; omega)]
  rfl
 | y :: ys,pre,h,hp=>by
  have hl:pre.length < w.length:=by rw[h]; simp
  rw[zA,aI (by rw[aq]; omega),jY h]
  by_cases h1:y.toNat < 48
  ·have hd:dh y=false:=by simp[dh]; omega
   rw[aI (by omega)]
   simp[hd]
  ·rw[aE (by omega),jY h]
   by_cases h2:57 < y.toNat
   ·have hd:dh y=false:=by simp[dh]; omega
    rw[aI (by omega)]
    simp[hd]
   ·have hd:dh y=true:=by simp[dh]; omega
    rw[aE (by omega),jY h]
    have hv:=AO pre 0 hp
    have hv2:10 ^ pre.length≤10 ^ 17:=Nat.pow_le_pow_right (by decide) (by omega)
    have hv3:bo 0 pre < 100000000000000000:=by
     rw[Nat.zero_add,Nat.one_mul] at hv
     exact Nat.lt_of_lt_of_le hv hv2
    clear hv hv2
    have e1:IntKind.u8.wrap ((y.toNat:Int) - 48)=((y.toNat - 48:Nat):Int):=by rw[Uc (by omega) (by omega)]; omega
    have w1:IntKind.i64.wrap (((bo 0 pre:Nat):Int)*10)=((bo 0 pre:Nat):Int)*10:=wr (by omega) (by omega)
    have w2:IntKind.i64.wrap ((y.toNat - 48:Nat):Int)=((y.toNat - 48:Nat):Int):=wr (by omega) (by omega)
    rw[e1,w1,w2,wr (n:=((bo 0 pre:Nat):Int)*10+((y.toNat - 48:Nat):Int)) (by omega) (by omega),wr (n:=(pre.length:Int)+1) (by omega) (by omega)]
    have e2:((bo 0 pre:Nat):Int)*10+((y.toNat - 48:Nat):Int)=((bo 0 (pre++[y]):Nat):Int):=by rw[zL]; omega
    have e3:(pre.length:Int)+1=((pre++[y]).length:Int):=by simp
    rw[e2,e3,BU hw ys (pre++[y]) (by rw[h]; simp) (by simp[hp,hd])]
    simp[hd]
def cB (w:ac) (m:Nat):Bool:=iI w && decide (w.length≤m)
theorem zM (w:ac) {m:Nat} (hm:m≤18):cR (ba w) (m:Int)=some ((if cB w m=true then((bo 0 w:Nat):Int) else 0,cB w m,()),()):=by
 rw[OC,aq]
 cases w with
 | nil =>
  rw[aI (by simp)]
  rfl
 | cons y ys =>
  have hlen:(y :: ys:ac).length=ys.length+1:=rfl
  rw[aE (by omega)]
  by_cases h:(y :: ys:ac).length≤m
  ·have hle:decide ((y :: ys:ac).length≤m)=true:=decide_eq_true h
   rw[aE (by omega),o0]
   have hl:=BU (w:=y :: ys) (by omega) (y :: ys) [] rfl rfl
   have hl:nG (ba (y :: ys)) 0 0=_:=hl
   have h0n:decide (1≤(y :: ys:ac).length)=true:=decide_eq_true (by omega)
   by_cases h0:y=48
   ·subst h0
    rw[if_pos (by rfl)]
    by_cases h1:ys.length=0
    ·rw[aE (by omega),hl]
     have h1':decide ((48 :: ys:ac).length=1)=true:=decide_eq_true (by omega)
     have e:cB (48 :: ys) m=(48 :: ys:ac).all dh:=by
      unfold cB iI
      rw[hle,h0n,h1']
      simp
     rw[e]
    ·rw[aI (by omega)]
     have h1':decide ((48 :: ys:ac).length=1)=false:=decide_eq_false (by omega)
     have e:cB (48 :: ys) m=false:=by
      unfold cB iI
      rw[h1']
      simp
     rw[e]
     rfl
   ·have h0' : ¬((y.toNat:Int) == 48)=true:=by
     simp only[beq_iff_eq]
     intro e
     apply h0
     apply UInt8.toNat_inj.1
     show y.toNat=48
     omega
    rw[if_neg h0',hl]
    have e:cB (y :: ys) m=(y :: ys:ac).all dh:=by
     have h2:decide ((y :: ys:ac).head? = some 48)=false:=decide_eq_false (by simpa using h0)
     unfold cB iI
     rw[hle,h0n,h2]
     simp
    rw[e]
  ·rw[aI (by omega)]
   have e:cB (y :: ys) m=false:=by
    unfold cB
    rw[decide_eq_false h]
    simp
   rw[e]
   rfl
theorem CB {w:ac} {m:Nat} (h:cB w m=true):Lib.decDigits (bo 0 w)=w∧w.length≤m:=by
 unfold cB at h
 rw[Bool.and_eq_true,decide_eq_true_eq] at h
 exact⟨(LN w h.1).1,h.2⟩
theorem zN {u m:Nat} (h:(Lib.decDigits u).length≤m):cB (Lib.decDigits u) m=true:=by
 unfold cB
 rw[pR]
 simpa using h
end Go.Proofs.YtddiiceaindlhaaGreatDoor.Abs
set_option linter.unusedVariables false
set_option linter.unusedSimpArgs false
set_option linter.unusedSectionVars false
namespace Go.Proofs.YtddiiceaindlhaaGreatDoor.Abs
open Go
theorem vj {w:ac} (hw:w.length≤281474976710656):g6 (ba w) 10 64=some (((cc w).1,(cc w).2,()),()):=by
 rw[yD]
 show(if(ba w).size≤281474976710656∧(10:Int)=10∧(64:Int)=64 then some (((cc (lb (ba w))).1,(cc (lb (ba w))).2,()),()) else none)=_
 rw[if_pos ⟨by rw[aq]; exact hw,rfl,rfl⟩,dw]
theorem R0 : ∀ r:Fin 10,(cc [UInt8.ofNat (48+r.val)]).1=(r.val:Int):=by decide +kernel
theorem R3 : ∀ r:Fin 100,(cc [UInt8.ofNat (48+r.val / 10),UInt8.ofNat (48+r.val % 10)]).1=(r.val:Int):=by decide +kernel
theorem O1 {r:Nat} (h:r < 100):(cc (Lib.decDigits r)).1=(r:Int):=by
 by_cases h1:r < 10
 ·rw[Lib.decDigits_one h1]
  exact R0 ⟨r,h1⟩
 ·rw[Lib.decDigits_two h1 h]
  exact R3 ⟨r,h⟩
theorem Te:(fun c=>([65,66,67,68,69,70,71,72,73,74,75,76,77,78,79,80,81,82,83,84,85,86,87,88,89,90]:ac).contains c)=eA:=funext fun c=>o4 (p:=fun c=>([65,66,67,68,69,70,71,72,73,74,75,76,77,78,79,80,81,82,83,84,85,86,87,88,89,90]:ac).contains c=eA c) (by decide +kernel) c
def cb (w:ac):Bool×ac:=(([36]:ac).isPrefixOf w,if([36]:ac).isPrefixOf w=true then w.drop 1 else w)
theorem GL (w:ac):o5 (cb w).1++(cb w).2=w:=by
 unfold cb o5
 cases w with
 | nil=>rfl
 | cons c l =>
  by_cases h:c=36
  ·subst h
   simp
  ·have:([36]:ac).isPrefixOf (c :: l)=false:=by rw[f9]; simp[h]
   simp[this]
theorem JG {b:Bool} {w:ac} (h:w.head? ≠ some 36):cb (o5 b++w)=(b,w):=by
 unfold cb o5
 cases b with
 | true=>simp
 | false =>
  cases w with
  | nil=>rfl
  | cons c l =>
   have h':c≠36:=fun e=>h (by rw[e]; rfl)
   have:([36]:ac).isPrefixOf (c :: l)=false:=by rw[f9]; simp[h']
   simp[this]
theorem JH (w:ac):(cb w).2.length≤w.length:=by
 unfold cb
 split <;> simp
def o6 (w:ac):aA:=((((jH ((cb w).2.takeWhile eA):Nat):Int),(cc (cb ((cb w).2.dropWhile eA)).2).1,()),(cb w).1,(cb ((cb w).2.dropWhile eA)).1,())
theorem GM (p:UInt8→Bool) (l:ac):(l.dropWhile p).length≤l.length:=(zK p l).2.2
theorem Tf {w:ac} (hw:w.length≤9223372036854775807):cl (ba w) (⟨#[36]⟩:ByteArray)=some ((ba (cb w).2,(cb w).1,()),()):=qV w [36] hw
theorem JI {w:ac} (hw:w.length≤281474976710656) :
  gz (ba w)=some ((if ao (o6 w).1=true∧eV (o6 w)=w then o6 w else p0,decide (ao (o6 w).1=true∧eV (o6 w)=w),()),()):=by
 have l1:=JH w
 have l2:=GM eA (cb w).2
 have l3:=JH ((cb w).2.dropWhile eA)
 obtain⟨d1,d2,d3⟩:=zK eA (cb w).2
 rw[HH,Tf (by omega)]
 simp only[Option.bind_some]
 rw[vi _ _ (by decide +kernel),Te]
 simp only[Option.bind_some,aq]
 rw[wr (by omega) (by omega),show((cb w).2.length:Int) - (((cb w).2.dropWhile eA).length:Int)=(((cb w).2.length - ((cb w).2.dropWhile eA).length:Nat):Int) by omega,Eb (by omega),d1,K5]
 simp only[Option.bind_some]
 rw[fy (by omega),d2,Tf (by omega)]
 simp only[Option.bind_some]
 rw[vj (by omega)]
 simp only[Option.bind_some,nL,mU]
 have e:o6 w=((((jH ((cb w).2.takeWhile eA):Nat):Int),(cc (cb ((cb w).2.dropWhile eA)).2).1,()),(cb w).1,(cb ((cb w).2.dropWhile eA)).1,()):=rfl
 rw[←e]
 have e1:(((jH ((cb w).2.takeWhile eA):Nat):Int),(cc (cb ((cb w).2.dropWhile eA)).2).1,())=(o6 w).1:=rfl
 rw[e1]
 cases hr:ao (o6 w).1 with
 | false=>simp
 | true =>
  simp only[Bool.not_true,Bool.false_eq_true,if_false,if_true,cT,true_and]
  by_cases hp:eV (o6 w)=w
  ·simp[hp]
  ·simp[hp]
theorem FB : ∀ c:Fin 53,1≤c.val→(fP c.val).all eA=true:=by decide +kernel
theorem TW {y:UInt8} (h:eA y=true):y≠36:=by
 rintro rfl
 exact absurd h (by decide)
theorem Rt {y:UInt8} (h:dh y=true):y≠36∧eA y=false:=by
 refine⟨?_,?_⟩
 ·rintro rfl
  exact absurd h (by decide)
 ·simp only[dh,eA,Bool.and_eq_true,decide_eq_true_eq,Bool.and_eq_false_iff,decide_eq_false_iff_not] at h ⊢
  omega
theorem Ee (u:Nat) : ∃ y l,Lib.decDigits u=y :: l∧dh y=true:=by
 have h:=pR u
 unfold iI at h
 simp only[Bool.and_eq_true,decide_eq_true_eq] at h
 cases hd:Lib.decDigits u with
 | nil=>rw[hd] at h; simp at h
 | cons y l =>
  rw[hd] at h
  refine⟨y,l,rfl,?_⟩
  have:=h.1.1
  simp only[List.all_cons,Bool.and_eq_true] at this
  exact this.1
theorem R4 {c:Nat} (h1:1≤c) (h2:c≤52) (x:ac):(fP c++x).head? ≠ some 36:=by
 have h:=FB ⟨c,by omega⟩ h1
 have hl:=pT c
 simp only at h
 cases hc:fP c with
 | nil=>rw[hc] at hl; simp at hl
 | cons y l =>
  rw[hc] at h
  simp only[List.all_cons,Bool.and_eq_true] at h
  intro e
  simp only[List.cons_append,List.head?_cons,Option.some.injEq] at e
  exact TW h.1 e
theorem JJ {c r:Nat} (h1:1≤c) (h2:c≤52) (fc fr:Bool):(cb (rx c r fc fr)).1=fc∧(cb (rx c r fc fr)).2.takeWhile eA=fP c∧(cb ((cb (rx c r fc fr)).2.dropWhile eA)).1=fr∧(cb ((cb (rx c r fc fr)).2.dropWhile eA)).2=Lib.decDigits r:=by
 unfold rx
 rw[JG (R4 h1 h2 _)]
 have hu:=List.all_eq_true.1 (FB ⟨c,by omega⟩ h1)
 simp only at hu ⊢
 obtain⟨y,l,hy,hd⟩:=Ee r
 have hn : ∃ z m,o5 fr++Lib.decDigits r=z :: m∧eA z=false:=by
  cases fr with
  | true=>exact⟨36,_,rfl,by decide⟩
  | false=>exact⟨y,l,hy,(Rt hd).2⟩
 obtain⟨z,m,hz,hzu⟩:=hn
 have ht:(o5 fr++Lib.decDigits r).takeWhile eA=[]:=by rw[hz]; simp[hzu]
 have hdr:(o5 fr++Lib.decDigits r).dropWhile eA=o5 fr++Lib.decDigits r:=by rw[hz]; simp[hzu]
 rw[List.takeWhile_append_of_pos hu,List.dropWhile_append_of_pos hu,ht,hdr,List.append_nil,JG (by rw[hy]; simp only[List.head?_cons,ne_eq,Option.some.injEq]; exact(Rt hd).1)]
 simp
theorem uD {p:aA} (h:ao p.1=true) : ∃(c r:Nat) (fc fr:Bool),p=(((c:Int),(r:Int),()),fc,fr,())∧1≤c∧c≤52∧1≤r∧r≤99:=by
 obtain⟨⟨c,r,u⟩,fc,fr,u'⟩:=p
 obtain⟨⟨h1,h2⟩,h3,h4⟩:=bA.1 h
 simp only at h1 h2 h3 h4
 refine⟨c.toNat,r.toNat,fc,fr,?_,by omega,by omega,by omega,by omega⟩
 rw[Int.toNat_of_nonneg (by omega),Int.toNat_of_nonneg (by omega)]
theorem R5 {p:aA} (h:ao p.1=true):o6 (eV p)=p:=by
 obtain⟨c,r,fc,fr,rfl,h1,h2,h3,h4⟩:=uD h
 obtain⟨e1,e2,e3,e4⟩:=JJ (r:=r) h1 h2 fc fr
 show o6 (rx c r fc fr)=_
 unfold o6
 rw[e1,e2,e3,e4,Ed ⟨c,by omega⟩ h1,O1 (by omega)]
def o7 (fc:Bool) (ls w2:ac):aA×Bool :=
 if cB (cb w2).2 2=true∧ao (((jH ls:Nat):Int),((bo 0 (cb w2).2:Nat):Int),())=true then(((((jH ls:Nat):Int),((bo 0 (cb w2).2:Nat):Int),()),fc,(cb w2).1,()),true) else(p0,false)
def cu (w:ac):aA×Bool:=o7 (cb w).1 ((cb w).2.takeWhile eA) ((cb w).2.dropWhile eA)
theorem M9 {fc:Bool} {ls w2:ac} {f1:Bool} {w3:ac} (h:cb w2=(f1,w3)) :
  ((cR (ba w3) 2).bind fun z2=>(if(!z2.1.2.1)=true then(some ((((0,0,()),false,false,()),false,()),(()))) else((cH (((jH ls:Nat):Int),z2.1.1,())).bind fun z3=>(if(!z3.1.1)=true then(some ((((0,0,()),false,false,()),false,()),(()))) else(some (((((((jH ls:Nat):Int),z2.1.1,()),fc,f1,()):aA),true,()),(())))))))=some (((o7 fc ls w2).1,(o7 fc ls w2).2,()),()):=by
 have e:=zM w3 (m:=2) (by decide)
 have e:cR (ba w3) 2=_:=e
 rw[e]
 simp only[Option.bind_some,gG]
 unfold o7
 rw[h]
 cases hr:cB w3 2 with
 | false=>simp
 | true =>
  simp only[Bool.not_true,Bool.false_eq_true,if_false,if_true,true_and]
  cases ho:ao (((jH ls:Nat):Int),((bo 0 w3:Nat):Int),()) with
  | false=>simp
  | true=>simp
theorem Ud {fc:Bool} {w1 pre ys:ac} (h:w1=pre++ys) (hl:w1.length≤9223372036854775807) :
  (Br (ba w1) (pre.length:Int) fun y7=>((pI y7).bind fun z8=>(il (ba w1) (pre.length:Int) fun y8=>(if(decide ((ByteArray.size y8:Int) > 0))=true then(et y8 0 fun y9=>(if(y9 == 36)=true then(il y8 1 fun y10=>((cR y10 2).bind fun z9=>(if(!z9.1.2.1)=true then(some ((((0,0,()),false,false,()),false,()),(()))) else((cH (z8.1.1,z9.1.1,())).bind fun z10=>(if(!z10.1.1)=true then(some ((((0,0,()),false,false,()),false,()),(()))) else(some ((((z8.1.1,z9.1.1,()),fc,true,()),true,()),(())))))))) else((cR y8 2).bind fun z11=>(if(!z11.1.2.1)=true then(some ((((0,0,()),false,false,()),false,()),(()))) else((cH (z8.1.1,z11.1.1,())).bind fun z12=>(if(!z12.1.1)=true then(some ((((0,0,()),false,false,()),false,()),(()))) else(some ((((z8.1.1,z11.1.1,()),fc,false,()),true,()),(()))))))))) else((cR y8 2).bind fun z13=>(if(!z13.1.2.1)=true then(some ((((0,0,()),false,false,()),false,()),(()))) else((cH (z8.1.1,z13.1.1,())).bind fun z14=>(if(!z14.1.1)=true then(some ((((0,0,()),false,false,()),false,()),(()))) else(some ((((z8.1.1,z13.1.1,()),fc,false,()),true,()),(())))))))))))
   = (some (((o7 fc pre ys).1,(o7 fc pre ys).2,()),()):Option ((aA×Bool×Unit)×Unit)):=by
 subst h
 have hle:pre.length≤(pre++ys).length:=by simp
 rw[Eb hle,List.take_left' rfl,K6]
 simp only[Option.bind_some]
 rw[fy hle,List.drop_left' rfl,aq]
 cases ys with
 | nil =>
  rw[aE (by simp)]
  exact M9 rfl
 | cons y l =>
  rw[aI (by simp),o0]
  by_cases hy:y=36
  ·subst hy
   rw[if_pos (by rfl),show(1:Int)=((1:Nat):Int) from rfl,fy (by simp)]
   exact M9 (by unfold cb; rw[f9]; simp)
  ·have h0' : ¬((y.toNat:Int) == 36)=true:=by
    simp only[beq_iff_eq]
    intro e
    apply hy
    apply UInt8.toNat_inj.1
    show y.toNat=36
    omega
   rw[if_neg h0']
   exact M9 (by unfold cb; rw[f9]; simp[hy])
theorem kD {fc:Bool} {w1:ac} (hl:w1.length≤9223372036854775806) : ∀(ys pre:ac),w1=pre++ys→ig (ba w1) (pre.length:Int) 0 0 false false 0 0 fc false=some (((o7 fc (pre++ys.takeWhile eA) (ys.dropWhile eA)).1,(o7 fc (pre++ys.takeWhile eA) (ys.dropWhile eA)).2,()),())
 | [],pre,h=>by
  have hlen:w1.length=pre.length:=by rw[h]; simp
  rw[tk,aE (by rw[aq]; omega)]
  simpa using Ud (fc:=fc) h (by omega)
 | y :: ys,pre,h=>by
  have hlen:pre.length < w1.length:=by rw[h]; simp
  rw[tk,aI (by rw[aq]; omega),jY h]
  cases hu:eA y with
  | true =>
   have hu':65≤y.toNat∧y.toNat≤90:=by simpa[eA] using hu
   rw[aI (by omega),jY h,aI (by omega),wr (by omega) (by omega),show(pre.length:Int)+1=((pre++[y]).length:Int) by simp,kD hl ys (pre++[y]) (by rw[h]; simp)]
   simp[hu]
  | false =>
   have hk:=Ud (fc:=fc) h (by omega)
   rw[List.takeWhile_cons_of_neg (by simp[hu]),List.dropWhile_cons_of_neg (by simp[hu]),List.append_nil]
   by_cases h1:65≤y.toNat
   ·have h2 : ¬y.toNat≤90:=by
     intro h2
     simp[eA,h1,h2] at hu
    rw[aI (by omega),jY h,aE (by omega)]
    exact hk
   ·rw[aE (by omega)]
    exact hk
theorem rg {w:ac} (hw:w.length≤281474976710656):lI (ba w)=some (((cu w).1,(cu w).2,()),()):=by
 rw[Hw,aq]
 cases w with
 | nil =>
  rw[aE (by simp)]
  exact kD (fc:=false) (w1:=[]) (by simp) [] [] rfl
 | cons y l =>
  rw[List.length_cons] at hw
  rw[aI (by simp),o0]
  by_cases hy:y=36
  ·subst hy
   rw[if_pos (by rfl),show(1:Int)=((1:Nat):Int) from rfl,fy (by simp)]
   have:=kD (fc:=true) (w1:=l) (by omega) l [] rfl
   have e:cb (36 :: l)=(true,l):=by unfold cb; rw[f9]; simp
   unfold cu
   rw[e]
   exact this
  ·have h0' : ¬((y.toNat:Int) == 36)=true:=by
    simp only[beq_iff_eq]
    intro e
    apply hy
    apply UInt8.toNat_inj.1
    show y.toNat=36
    omega
   rw[if_neg h0']
   have:=kD (fc:=false) (w1:=y :: l) (by rw[List.length_cons]; omega) (y :: l) [] rfl
   have e:cb (y :: l)=(false,y :: l):=by unfold cb; rw[f9]; simp[hy]
   unfold cu
   rw[e]
   exact this
theorem R6 {w:ac} (h:(cu w).2=true):ao (cu w).1.1=true∧eV (cu w).1=w:=by
 unfold cu o7 at h ⊢
 split at h
 ·rename_i hc
  rw[if_pos hc]
  refine⟨hc.2,?_⟩
  obtain⟨⟨k1,k2⟩,k3,k4⟩:=bA.1 hc.2
  simp only at k1 k2 k3 k4
  obtain⟨c1,c2⟩:=O0 (w:=(cb w).2.takeWhile eA) (by omega)
  obtain⟨r1,r2⟩:=CB hc.1
  unfold eV rx
  simp only[Int.toNat_natCast]
  rw[c2,r1,GL,List.takeWhile_append_dropWhile,GL]
 ·cases h
theorem nM {p:aA} (h:ao p.1=true):cu (eV p)=(p,true):=by
 obtain⟨c,r,fc,fr,rfl,h1,h2,h3,h4⟩:=uD h
 obtain⟨e1,e2,e3,e4⟩:=JJ (r:=r) h1 h2 fc fr
 show cu (rx c r fc fr)=_
 unfold cu o7
 rw[e1,e2,e3,e4,Ed ⟨c,by omega⟩ h1,pQ,if_pos ⟨zN (rY h4),h⟩]
theorem R7 {w:ac} (h:(cu w).2=false):cu w=(p0,false):=by
 unfold cu o7 at h ⊢
 split at h
 ·cases h
 ·rename_i hc
  rw[if_neg hc]
theorem mW {w:ac} (hw:w.length≤281474976710656):gz (ba w)=some (((cu w).1,(cu w).2,()),()):=by
 rw[JI hw]
 by_cases h:ao (o6 w).1=true∧eV (o6 w)=w
 ·have:=nM h.1
  rw[h.2] at this
  rw[if_pos h,decide_eq_true h,this]
 ·rw[if_neg h,decide_eq_false h]
  cases h2:(cu w).2 with
  | false=>rw[R7 h2]
  | true =>
   obtain⟨k1,k2⟩:=R6 h2
   refine absurd ?_ h
   have:=R5 k1
   rw[k2] at this
   rw[this]
   exact⟨k1,k2⟩
end Go.Proofs.YtddiiceaindlhaaGreatDoor.Abs
set_option linter.unusedVariables false
set_option linter.unusedSimpArgs false
set_option linter.unusedSectionVars false
namespace Go.Proofs.YtddiiceaindlhaaGreatDoor.Abs
open Go
def hJ:ac:=[84,82,85,69]
def iu:ac:=[70,65,76,83,69]
def eZ (w:ac):Int:=if c8 5=ba w then 5 else if c8 4=ba w then 4 else if c8 3=ba w then 3 else if c8 2=ba w then 2 else if c8 1=ba w then 1 else 0
theorem R8 {w:ac} (h:eZ w≠0):c8 (eZ w)=ba w∧1≤eZ w∧eZ w≤5:=by
 unfold eZ at h ⊢
 split
 ·exact⟨‹_›,by decide,by decide⟩
 ·split
  ·exact⟨‹_›,by decide,by decide⟩
  ·split
   ·exact⟨‹_›,by decide,by decide⟩
   ·split
    ·exact⟨‹_›,by decide,by decide⟩
    ·split
     ·exact⟨‹_›,by decide,by decide⟩
     ·rename_i h1 h2 h3 h4 h5
      simp[h1,h2,h3,h4,h5] at h
theorem GN : ∀ n:Fin 6,1≤n.val→eZ (lb (c8 (n.val:Int)))=(n.val:Int):=by decide +kernel
def uE (w:ac):ax :=
 if w=[] then v0 else
 if w.head? = some 39 then vT (ba (w.drop 1)) else
 if w=hJ then vB true else
 if w=iu then vB false else
 if w.head? = some 35 then(4,eZ w,eS,()) else
 if w.head? = some 45 then(if cB (w.drop 1) 16=true∧bo 0 (w.drop 1)≠0 then vN (-((bo 0 (w.drop 1):Nat):Int)) else(9,0,eS,())) else
 if cB w 16=true then vN ((bo 0 w:Nat):Int) else(9,0,eS,())
def br (w:ac):ax×Bool:=if aN (uE w)=true then(uE w,true) else(v0,false)
theorem LO {v:ax} (h:v.2.2.1.size≤9223372036854775807) {a b:Int} {c:ByteArray}:aD a b c v.1 v.2.1 v.2.2.1=some ((if aN v=true then v else v0,aN v,()),()):=by
 rw[Bi,show(v.1,v.2.1,v.2.2.1,())=v from rfl,mB h]
 simp only[Option.bind_some]
 cases aN v <;> rfl
theorem tz {w:ac} {n:Int} (h0:0≤n) (h1:n≤5) {a b e N:Int} {c f:ByteArray}:eU (ba w) n a b c e N f=eU (ba w) (n+1) a b c e (if c8 n=ba w then n else N) f:=by
 rw[rp,aI h1,xF h0 h1]
 simp only[Option.bind_some,ol,decide_eq_true_eq]
 rw[wr (by omega) (by omega)]
 split <;> rfl
theorem Tg {w:ac}:eU (ba w) 1 0 0 eS 4 0 eS=some ((if aN (4,eZ w,eS,())=true then(4,eZ w,eS,()) else v0,aN (4,eZ w,eS,()),()),()):=by
 rw[tz (by decide) (by decide),tz (by decide) (by decide),tz (by decide) (by decide),tz (by decide) (by decide),tz (by decide) (by decide),rp,aE (by decide)]
 exact LO (v:=(4,eZ w,eS,())) (by show eS.size≤_; decide)
theorem QE {w:ac} (hw:w.length≤9223372036854775807) {y:UInt8} {l:ac} (h:w=y :: l) :
  (if((y.toNat:Int) == 45)=true then(il (ba w) 1 fun y5=>((cR y5 16).bind fun z1=>(if(!z1.1.2.1)=true then(some (((0,0,(⟨#[]⟩:ByteArray),()),false,()),(()))) else(if((y.toNat:Int) == 45)=true then(if(z1.1.1 == 0)=true then(some (((0,0,(⟨#[]⟩:ByteArray),()),false,()),(()))) else(if((y.toNat:Int) == 45)=true then(aD 0 0 (⟨#[]⟩:ByteArray) 1 (IntKind.i64.wrap (0 - z1.1.1)) (⟨#[]⟩:ByteArray)) else(aD 0 0 (⟨#[]⟩:ByteArray) 1 z1.1.1 (⟨#[]⟩:ByteArray)))) else(if((y.toNat:Int) == 45)=true then(aD 0 0 (⟨#[]⟩:ByteArray) 1 (IntKind.i64.wrap (0 - z1.1.1)) (⟨#[]⟩:ByteArray)) else(aD 0 0 (⟨#[]⟩:ByteArray) 1 z1.1.1 (⟨#[]⟩:ByteArray)))))))
   else((cR (ba w) 16).bind fun z2=>(if(!z2.1.2.1)=true then(some (((0,0,(⟨#[]⟩:ByteArray),()),false,()),(()))) else(if((y.toNat:Int) == 45)=true then(if(z2.1.1 == 0)=true then(some (((0,0,(⟨#[]⟩:ByteArray),()),false,()),(()))) else(if((y.toNat:Int) == 45)=true then(aD 0 0 (⟨#[]⟩:ByteArray) 1 (IntKind.i64.wrap (0 - z2.1.1)) (⟨#[]⟩:ByteArray)) else(aD 0 0 (⟨#[]⟩:ByteArray) 1 z2.1.1 (⟨#[]⟩:ByteArray)))) else(if((y.toNat:Int) == 45)=true then(aD 0 0 (⟨#[]⟩:ByteArray) 1 (IntKind.i64.wrap (0 - z2.1.1)) (⟨#[]⟩:ByteArray)) else(aD 0 0 (⟨#[]⟩:ByteArray) 1 z2.1.1 (⟨#[]⟩:ByteArray)))))))
   = (let v:ax:=if w.head? = some 45 then(if cB (w.drop 1) 16=true∧bo 0 (w.drop 1)≠0 then vN (-((bo 0 (w.drop 1):Nat):Int)) else(9,0,eS,())) else if cB w 16=true then vN ((bo 0 w:Nat):Int) else(9,0,eS,())
    some ((if aN v=true then v else v0,aN v,()),())):=by
 have e9:aN (9,0,eS,())=false:=by decide
 have hint : ∀ x:ac,cR (ba x) 16=_:=fun x=>zM x (m:=16) (by decide)
 have hrange : ∀ x:ac,cB x 16=true→bo 0 x < 10 ^ 16:=by
  intro x hx
  unfold cB iI at hx
  simp only[Bool.and_eq_true,decide_eq_true_eq] at hx
  have:=AO x 0 hx.1.1.1
  exact Nat.lt_of_lt_of_le (by simpa using this) (Nat.pow_le_pow_right (by decide) hx.2)
 subst h
 by_cases hy:y=45
 ·subst hy
  have e:(((45:UInt8).toNat:Int) == 45)=true:=rfl
  simp only[e,if_true,List.head?_cons,List.drop_succ_cons,List.drop_zero]
  rw[show(1:Int)=((1:Nat):Int) from rfl,fy (by simp)]
  simp only[List.drop_succ_cons,List.drop_zero,hint,Option.bind_some]
  cases hr:cB l 16 with
  | false=>simp[e9]; rfl
  | true =>
   have:=hrange l hr
   by_cases h0:bo 0 l=0
   ·simp[h0,e9]; rfl
   ·have h0' : ¬(((bo 0 l:Nat):Int) == 0)=true:=by simp only[beq_iff_eq]; omega
    simp only[Bool.not_true,Bool.false_eq_true,if_false,if_true,h0',ne_eq,h0,not_false_eq_true,and_self]
    rw[wr (by omega) (by omega),show(0:Int) - ((bo 0 l:Nat):Int) = -((bo 0 l:Nat):Int) by omega]
    exact LO (v:=vN _) (by show eS.size≤_; decide)
 ·have e : ¬((y.toNat:Int) == 45)=true:=by
   simp only[beq_iff_eq]
   intro e
   apply hy
   apply UInt8.toNat_inj.1
   show y.toNat=45
   omega
  have e2 : ¬(some y=some (45:UInt8)):=by simpa using hy
  simp only[e,if_false,List.head?_cons,e2,hint,Option.bind_some]
  cases hr:cB (y :: l) 16 with
  | false=>simp[e9]; rfl
  | true =>
   have:=hrange _ hr
   simp only[Bool.not_true,Bool.false_eq_true,if_false,if_true]
   exact LO (v:=vN _) (by show eS.size≤_; decide)
theorem rh {w:ac} (hw:w.length≤9223372036854775807):rK (ba w)=some (((br w).1,(br w).2,()),()):=by
 have aR : ∀ v:ax,uE w=v→some ((if aN v=true then v else v0,aN v,()),())=(some (((br w).1,(br w).2,()),()):Option ((ax×Bool×Unit)×Unit)):=by
  intro v hv
  unfold br
  rw[hv]
  cases aN v <;> rfl
 rw[Hy]
 have e0:(ByteArray.toList (ba w) == ByteArray.toList (⟨#[]⟩:ByteArray))=decide (w=[]):=cT (b:=[])
 have e1:(ByteArray.toList (ba w) == ByteArray.toList (⟨#[84,82,85,69]⟩:ByteArray))=decide (w=hJ):=cT (b:=hJ)
 have e2:(ByteArray.toList (ba w) == ByteArray.toList (⟨#[70,65,76,83,69]⟩:ByteArray))=decide (w=iu):=cT (b:=iu)
 rw[e0,e1,e2]
 cases w with
 | nil =>
  rw[aI rfl]
  exact aR v0 rfl
 | cons y l =>
  rw[aE (by simp)]
  simp only[o0]
  rw[Cz y 39 (n:=39) rfl,Cz y 35 (n:=35) rfl]
  have hv:=uE.eq_def (y :: l)
  rw[if_neg (by simp)] at hv
  by_cases h39:y=39
  ·rw[aI h39,show(1:Int)=((1:Nat):Int) from rfl,fy (by simp)]
   rw[if_pos (by rw[h39]; rfl)] at hv
   rw[List.length_cons] at hw
   exact(LO (v:=vT (ba ((y :: l).drop 1))) (by show(ba _).size≤_; rw[aq]; simp; omega)).trans (aR _ hv)
  ·rw[aE h39]
   rw[if_neg (by simpa using h39)] at hv
   by_cases ht:(y :: l)=hJ
   ·rw[if_pos ht] at hv
    rw[aI ht,aI ht,aI ht]
    exact(LO (v:=vB true) (by decide)).trans (aR _ hv)
   ·rw[if_neg ht] at hv
    rw[aE ht]
    by_cases hf:(y :: l)=iu
    ·rw[if_pos hf] at hv
     rw[aI hf,aE ht]
     exact(LO (v:=vB false) (by decide)).trans (aR _ hv)
    ·rw[if_neg hf] at hv
     rw[aE hf]
     by_cases h35:y=35
     ·rw[aI h35]
      rw[if_pos (by rw[h35]; rfl)] at hv
      exact Tg.trans (aR _ hv)
     ·rw[aE h35]
      rw[if_neg (by simpa using h35)] at hv
      exact(QE hw rfl).trans (aR _ hv)
theorem uF {n:Int} (h:n < 0):dp n=ba (45 :: Lib.decDigits (-n).toNat):=by
 rw[zG h,show -n=((-n).toNat:Int) by omega,ll,show(⟨#[45]⟩:ByteArray)=ba [45] from rfl,mC]
 congr 2
theorem wB {u:Nat}:Lib.decDigits u≠[]∧(Lib.decDigits u).head? ≠ some 39∧(Lib.decDigits u).head? ≠ some 35∧(Lib.decDigits u).head? ≠ some 45∧Lib.decDigits u≠hJ∧Lib.decDigits u≠iu:=by
 obtain⟨y,l,hy,hd⟩:=Ee u
 rw[hy]
 have hn : ∀ c:UInt8,dh c=false→y≠c:=by
  rintro c hc rfl
  rw[hd] at hc
  cases hc
 refine⟨by simp,?_,?_,?_,?_,?_⟩
 ·simpa using hn 39 (by decide)
 ·simpa using hn 35 (by decide)
 ·simpa using hn 45 (by decide)
 ·intro e
  exact hn 84 (by decide) (List.cons.inj e).1
 ·intro e
  exact hn 70 (by decide) (List.cons.inj e).1
theorem Na {u:Nat} (h:u≤1000000000000000):(Lib.decDigits u).length≤16:=D3 15 u (by omega)
theorem R9 {v:ax} (h:aN v=true) (k:v.1≠2):v.2.2.1=eS:=by
 unfold aN at h
 rw[if_neg k] at h
 simp only[Bool.and_eq_true,decide_eq_true_eq] at h
 exact h.1
theorem Sa {v:ax} (h:aN v=true) (k:v.1=0):v.2.1=0:=by
 unfold aN at h
 rw[if_neg (by omega),if_pos k] at h
 simp only[Bool.and_eq_true,decide_eq_true_eq] at h
 exact h.2
theorem LP {v:ax} (h:aN v=true) (k:v.1=2):v.2.1=0:=by
 unfold aN at h
 rw[if_pos k] at h
 simp only[Bool.and_eq_true,decide_eq_true_eq] at h
 exact h.1
theorem qp {v:ax} (h:aN v=true):v=v0∨(∃ n,v=vN n ∧ -1000000000000000≤n∧n≤1000000000000000)∨(∃ s,v=vT s)∨(∃ b,v=vB b) ∨ ∃ n:Fin 6,v=vE (n.val:Int)∧1≤n.val:=by
 obtain⟨k,n,s,u⟩:=v
 have hS:=fun hk=>R9 h hk
 rcases M4 h with hk | hk | hk | hk | hk <;> simp only at hk <;> subst hk
 ·have h0:=Sa h rfl
  have h1:=hS (by show(_:Int)≠2; omega)
  simp only at h0 h1
  subst h0; subst h1
  exact .inl rfl
 ·have h0:=AM h rfl
  have h1:=hS (by show(_:Int)≠2; omega)
  simp only at h0 h1
  subst h1
  exact .inr (.inl ⟨n,rfl,h0.1,h0.2⟩)
 ·have h0:=LP h rfl
  simp only at h0
  subst h0
  exact .inr (.inr (.inl ⟨s,rfl⟩))
 ·have h0:=LK h rfl
  have h1:=hS (by show(_:Int)≠2; omega)
  simp only at h0 h1
  subst h1
  refine .inr (.inr (.inr (.inl ⟨decide (n=1),?_⟩)))
  have:n=0∨n=1:=by omega
  rcases this with rfl | rfl <;> rfl
 ·have h0:=AN h rfl
  have h1:=hS (by show(_:Int)≠2; omega)
  simp only at h0 h1
  subst h1
  refine .inr (.inr (.inr (.inr ⟨⟨n.toNat,by omega⟩,?_,by simp; omega⟩)))
  show _=vE ((n.toNat:Nat):Int)
  rw[Int.toNat_of_nonneg (by omega)]
  rfl
theorem QF {v:ax} (h:aN v=true):uE (lb (cL v))=v:=by
 rcases qp h with rfl | ⟨n,rfl,h0,h1⟩ | ⟨s,rfl⟩ | ⟨b,rfl⟩ | ⟨n,rfl,h0⟩
 ·rfl
 ·have e:cL (vN n)=dp n:=rfl
  rw[e]
  by_cases hn:n < 0
  ·rw[uF hn,dw]
   have hr:cB (Lib.decDigits (-n).toNat) 16=true:=zN (Na (by omega))
   unfold uE
   simp only[List.head?_cons,List.drop_succ_cons,List.drop_zero,hr,pQ]
   rw[if_neg (by simp),if_neg (by decide),if_neg (by unfold hJ; simp),if_neg (by unfold iu; simp),if_neg (by decide),if_pos trivial,if_pos ⟨trivial,by omega⟩]
   congr 1
   omega
  ·rw[show n=(n.toNat:Int) by omega,ll,dw]
   have hr:cB (Lib.decDigits n.toNat) 16=true:=zN (Na (by omega))
   obtain⟨d1,d2,d3,d4,d5,d6⟩:=wB (u:=n.toNat)
   unfold uE
   rw[if_neg d1,if_neg d2,if_neg d5,if_neg d6,if_neg d3,if_neg d4,if_pos hr,pQ]
 ·have e:lb (cL (vT s))=39 :: lb s:=by
   show lb ((⟨#[39]⟩:ByteArray)++s)=_
   rw[←f0 s,show(⟨#[39]⟩:ByteArray)=ba [39] from rfl,mC,dw]
   simp
  rw[e]
  unfold uE
  rw[if_neg (by simp),if_pos (by rfl)]
  simp only[List.drop_succ_cons,List.drop_zero,f0]
 ·cases b <;> rfl
 ·have e:lb (cL (vE (n.val:Int)))=lb (c8 (n.val:Int)):=rfl
  rw[e]
  have h1 : ∀ n:Fin 6,1≤n.val→lb (c8 (n.val:Int))≠[]∧(lb (c8 (n.val:Int))).head? = some 35∧lb (c8 (n.val:Int))≠hJ∧lb (c8 (n.val:Int))≠iu:=by decide +kernel
  obtain⟨a1,a2,a3,a4⟩:=h1 n h0
  unfold uE
  rw[if_neg a1,if_neg (by rw[a2]; decide),if_neg a3,if_neg a4,if_pos a2,GN n h0]
  rfl
theorem xH {v:ax} (h:aN v=true):br (lb (cL v))=(v,true):=by
 unfold br
 rw[QF h,if_pos h]
theorem Th {w:ac} (h:aN (uE w)=true):cL (uE w)=ba w:=by
 unfold uE at h ⊢
 split
 ·rename_i hw
  rw[hw]
  rfl
 ·rename_i hw
  rw[if_neg hw] at h
  split
  ·rename_i h39
   cases w with
   | nil=>cases h39
   | cons y l =>
    simp only[List.head?_cons,Option.some.injEq] at h39
    subst h39
    show(⟨#[39]⟩:ByteArray)++ba l=_
    rw[show(⟨#[39]⟩:ByteArray)=ba [39] from rfl,mC]
    rfl
  ·rename_i h39
   rw[if_neg h39] at h
   split
   ·rename_i ht
    rw[ht]
    rfl
   ·rename_i ht
    rw[if_neg ht] at h
    split
    ·rename_i hf
     rw[hf]
     rfl
    ·rename_i hf
     rw[if_neg hf] at h
     split
     ·rename_i h35
      rw[if_pos h35] at h
      have:=AN h rfl
      simp only at this
      exact(R8 (by omega)).1
     ·rename_i h35
      rw[if_neg h35] at h
      have e9:aN (9,0,eS,())=false:=by decide
      split
      ·rename_i h45
       rw[if_pos h45] at h
       split
       ·rename_i hc
        cases w with
        | nil=>cases h45
        | cons y l =>
         simp only[List.head?_cons,Option.some.injEq] at h45
         subst h45
         simp only[List.drop_succ_cons,List.drop_zero] at hc ⊢
         show dp (-((bo 0 l:Nat):Int))=_
         rw[uF (by omega),show(- -((bo 0 l:Nat):Int)).toNat=bo 0 l by omega,(CB hc.1).1]
       ·rename_i hc
        rw[if_neg hc,e9] at h
        cases h
      ·rename_i h45
       rw[if_neg h45] at h
       split
       ·rename_i hc
        show dp ((bo 0 w:Nat):Int)=_
        rw[ll,(CB hc).1]
       ·rename_i hc
        rw[if_neg hc,e9] at h
        cases h
theorem pU {w:ac} (h:(br w).2=true):aN (br w).1=true∧cL (br w).1=ba w:=by
 unfold br at h ⊢
 split at h
 ·rename_i hc
  rw[if_pos hc]
  exact⟨hc,Th hc⟩
 ·cases h
theorem QG {w:ac} (h:(br w).2=false):br w=(v0,false):=by
 unfold br at h ⊢
 split at h
 ·cases h
 ·rename_i hc
  rw[if_neg hc]
end Go.Proofs.YtddiiceaindlhaaGreatDoor.Abs
set_option linter.unusedVariables false
set_option linter.unusedSimpArgs false
set_option linter.unusedSectionVars false
namespace Go.Proofs.YtddiiceaindlhaaGreatDoor.Abs
open Go
theorem LQ : ∀(l:ac) (a:Nat),a≤bo a l
 | [],a=>Nat.le_refl _
 | c :: l,a=>by
  have:=LQ l (a*10+(c.toNat - 48))
  show a≤bo (a*10+(c.toNat - 48)) l
  omega
theorem H3 : ∀(l:ac) (a:Nat),l.all dh=true→bo a l≤100000000000000000→Lib.parseUintM 18446744073709551615 a l = .ok (bo a l)
 | [],a,_,_=>rfl
 | c :: l,a,h,hv=>by
  simp only[List.all_cons,Bool.and_eq_true] at h
  have hd:48≤c.toNat∧c.toNat≤57:=by simpa[dh] using h.1
  have hg:=LQ l (a*10+(c.toNat - 48))
  have hv':bo (a*10+(c.toNat - 48)) l≤100000000000000000:=hv
  unfold Lib.parseUintM
  rw[if_pos hd,if_neg (by omega),if_neg (by omega),H3 l _ h.2 hv']
  rfl
theorem AP {l:ac} (h:iI l=true):l.all dh=true:=by
 unfold iI at h
 simp only[Bool.and_eq_true] at h
 exact h.1.1
theorem O2 {u:Nat} (h:u≤1000000000000000):Lib.parseUintB 64 (Lib.decDigits u) = .ok u:=by
 unfold Lib.parseUintB
 rw[if_neg wB.1]
 have:=H3 (Lib.decDigits u) 0 (AP (pR u)) (by rw[pQ]; omega)
 rw[pQ] at this
 exact this
theorem Nb {u:Nat} (h:u≤1000000000000000):cc (Lib.decDigits u)=((u:Int),true):=by
 obtain⟨y,l,hy,hd⟩:=Ee u
 have hd':48≤y.toNat∧y.toNat≤57:=by simpa[dh] using hd
 have hp:=O2 h
 unfold cc
 have:Lib.parseIntB 64 (Lib.decDigits u) = .ok (u:Int):=by
  rw[hy] at hp ⊢
  unfold Lib.parseIntB
  simp only
  rw[if_neg (by omega),hp]
  simp only
  rw[if_neg (by omega),if_neg (by omega),if_neg (by omega)]
 rw[this]
theorem Nc {u:Nat} (h:u≤1000000000000000):cc (45 :: Lib.decDigits u)=(-(u:Int),true):=by
 have hp:=O2 h
 unfold cc
 have:Lib.parseIntB 64 (45 :: Lib.decDigits u) = .ok (-(u:Int)):=by
  unfold Lib.parseIntB
  simp only
  have h45:(45:UInt8).toNat=45:=rfl
  rw[if_pos (.inr h45),hp]
  simp only
  rw[if_neg (by omega),if_neg (by omega),if_pos h45]
 rw[this]
def cV (w:ac):ax :=
 if([39]:ac).isPrefixOf w=true then vT (ba (w.drop 1)) else
 if w=iu then vB (decide (w=hJ)) else
 if w=hJ then vB (decide (w=hJ)) else
 if([35]:ac).isPrefixOf w=true then(if eZ w=0 then v0 else vE (eZ w)) else
 if w≠[] then vN (cc w).1 else v0
theorem AQ {v:ax} {w:ac} (h:v.2.2.1.size≤9223372036854775807):((g5 v).bind fun z2=>(if(!z2.1.1)=true then(some (((0,0,(⟨#[]⟩:ByteArray),()),false,()),(()))) else((fE v).bind fun z3=>(if(!(ByteArray.toList z3.1.1 == ByteArray.toList (ba w)))=true then(some (((0,0,(⟨#[]⟩:ByteArray),()),false,()),(()))) else(some ((v,true,()),(())))))))=some ((if aN v=true∧cL v=ba w then v else v0,decide (aN v=true∧cL v=ba w),()),()):=by
 rw[vf h]
 simp only[Option.bind_some]
 cases ho:aN v with
 | false=>simp; rfl
 | true =>
  rw[yv ho]
  simp only[Option.bind_some,Bool.not_true,Bool.false_eq_true,if_false,ol,true_and]
  by_cases hv:cL v=ba w
  ·simp[hv]
  ·simp[hv]; rfl
theorem Ti {w:ac} (hc : ∀ v:ax,aN v=true→cL v=ba w→cV w=v):(if aN (cV w)=true∧cL (cV w)=ba w then cV w else v0)=(br w).1∧decide (aN (cV w)=true∧cL (cV w)=ba w)=(br w).2:=by
 by_cases h:aN (cV w)=true∧cL (cV w)=ba w
 ·have:=xH h.1
  rw[h.2,dw] at this
  rw[if_pos h,decide_eq_true h,this]
  exact⟨rfl,rfl⟩
 ·rw[if_neg h,decide_eq_false h]
  cases h2:(br w).2 with
  | false=>rw[QG h2]; exact⟨rfl,rfl⟩
  | true =>
   obtain⟨k1,k2⟩:=pU h2
   refine absurd ?_ h
   rw[hc _ k1 k2]
   exact⟨k1,k2⟩
theorem Sb {v:ax} (h:aN v=true):cV (lb (cL v))=v:=by
 rcases qp h with rfl | ⟨n,rfl,h0,h1⟩ | ⟨s,rfl⟩ | ⟨b,rfl⟩ | ⟨n,rfl,h0⟩
 ·rfl
 ·have e:cL (vN n)=dp n:=rfl
  rw[e]
  by_cases hn:n < 0
  ·rw[uF hn,dw]
   unfold cV
   rw[if_neg (by simp),if_neg (by unfold iu; simp),if_neg (by unfold hJ; simp),if_neg (by simp),if_pos (by simp),Nc (by omega)]
   congr 1
   simp only
   omega
  ·rw[show n=(n.toNat:Int) by omega,ll,dw]
   obtain⟨d1,d2,d3,d4,d5,d6⟩:=wB (u:=n.toNat)
   have hp:=Nb (u:=n.toNat) (by omega)
   obtain⟨y,l,hy,hd⟩:=Ee n.toNat
   rw[hy] at d1 d2 d3 d4 d5 d6 hp ⊢
   unfold cV
   rw[if_neg (by rw[f9]; simpa using d2),if_neg d6,if_neg d5,if_neg (by rw[f9]; simpa using d3),if_pos d1,hp]
 ·have e:lb (cL (vT s))=39 :: lb s:=by
   show lb ((⟨#[39]⟩:ByteArray)++s)=_
   rw[←f0 s,show(⟨#[39]⟩:ByteArray)=ba [39] from rfl,mC,dw]
   simp
  rw[e]
  unfold cV
  rw[if_pos (by simp)]
  simp only[List.drop_succ_cons,List.drop_zero,f0]
 ·cases b <;> rfl
 ·have e:lb (cL (vE (n.val:Int)))=lb (c8 (n.val:Int)):=rfl
  rw[e]
  have h1 : ∀ n:Fin 6,1≤n.val→([39]:ac).isPrefixOf (lb (c8 (n.val:Int)))=false∧([35]:ac).isPrefixOf (lb (c8 (n.val:Int)))=true∧lb (c8 (n.val:Int))≠hJ∧lb (c8 (n.val:Int))≠iu:=by decide +kernel
  obtain⟨a1,a2,a3,a4⟩:=h1 n h0
  unfold cV
  rw[if_neg (by rw[a1]; decide),if_neg a4,if_neg a3,if_pos a2,GN n h0,if_neg (by omega)]
theorem wC {w:ac} {n:Int} (h0:0≤n) (h1:n≤5) {a b d e:Int} {c f:ByteArray}:gi (ba w) n a b c d e f=gi (ba w) (n+1) a b c (if c8 n=ba w then 4 else d) (if c8 n=ba w then n else e) (if c8 n=ba w then eS else f):=by
 rw[tt,aI h1,rf h0 h1]
 simp only[Option.bind_some,ol,decide_eq_true_eq,uA]
 rw[wr (by omega) (by omega)]
 split <;> rfl
theorem FC {α:Type} (w:ac) (f:Int→α) (z:α) (hz:z=f 0):(if c8 5=ba w then f 5 else if c8 4=ba w then f 4 else if c8 3=ba w then f 3 else if c8 2=ba w then f 2 else if c8 1=ba w then f 1 else z)=f (eZ w):=by
 unfold eZ
 subst hz
 repeat' split <;> first | rfl | skip
theorem TX {w:ac}:gi (ba w) 1 0 0 eS 0 0 eS=some ((if aN (if eZ w=0 then v0 else vE (eZ w))=true∧cL (if eZ w=0 then v0 else vE (eZ w))=ba w then(if eZ w=0 then v0 else vE (eZ w)) else v0,decide (aN (if eZ w=0 then v0 else vE (eZ w))=true∧cL (if eZ w=0 then v0 else vE (eZ w))=ba w),()),()):=by
 rw[wC (by decide) (by decide),wC (by decide) (by decide),wC (by decide) (by decide),wC (by decide) (by decide),wC (by decide) (by decide),tt,aE (by decide)]
 have e1:=FC w (fun n=>if n=0 then(0:Int) else 4) 0 (by simp)
 have e2:=FC w (fun n=>n) 0 rfl
 have e3:=FC w (fun n=>eS) eS rfl
 simp only[show(1:Int)+1=2 from rfl,show(2:Int)+1=3 from rfl,show(3:Int)+1=4 from rfl,show(4:Int)+1=5 from rfl]
 simp only[show(5:Int)=0↔False by decide,show(4:Int)=0↔False by decide,show(3:Int)=0↔False by decide,show(2:Int)=0↔False by decide,show(1:Int)=0↔False by decide,if_false] at e1
 rw[e1,e2,e3]
 have e:((if eZ w=0 then(0:Int) else 4),eZ w,eS,())=(if eZ w=0 then v0 else vE (eZ w)):=by
  by_cases h:eZ w=0
  ·rw[if_pos h,if_pos h,h]
   rfl
  ·rw[if_neg h,if_neg h]
   rfl
 rw[e]
 exact AQ (by split <;> (show eS.size≤_; decide))
theorem ri {w:ac} (hw:w.length≤281474976710656):jy (ba w)=some (((br w).1,(br w).2,()),()):=by
 obtain⟨p1,p2⟩:=Ti (w:=w) (fun v h1 h2=>by have:=Sb h1; rw[h2,dw] at this; exact this)
 have aR : ∀ v:ax,cV w=v→(some ((if aN v=true∧cL v=ba w then v else v0,decide (aN v=true∧cL v=ba w),()),()):Option ((ax×Bool×Unit)×Unit))=some (((br w).1,(br w).2,()),()):=by
  rintro v rfl
  rw[p1,p2]
 have hv:=cV.eq_def w
 have e1:(ByteArray.toList (ba w) == ByteArray.toList (⟨#[84,82,85,69]⟩:ByteArray))=decide (w=hJ):=cT (b:=hJ)
 have e2:(ByteArray.toList (ba w) == ByteArray.toList (⟨#[70,65,76,83,69]⟩:ByteArray))=decide (w=iu):=cT (b:=iu)
 have e0:(ByteArray.toList (ba w) == ByteArray.toList (⟨#[]⟩:ByteArray))=decide (w=[]):=cT (b:=[])
 rw[HF,show(⟨#[39]⟩:ByteArray)=ba [39] from rfl,qV w [39] (by omega),show(⟨#[35]⟩:ByteArray)=ba [35] from rfl,qU w [35] (by omega),e0,e1,e2]
 simp only[Option.bind_some,OQ]
 cases h39:([39]:ac).isPrefixOf w with
 | true =>
  rw[if_pos h39] at hv
  simp only[if_true]
  refine(AQ (v:=vT (ba (w.drop 1))) ?_).trans (aR _ hv)
  show(ba _).size≤_
  rw[aq]
  simp
  omega
 | false =>
  rw[if_neg (by rw[h39]; decide)] at hv
  simp only[Bool.false_eq_true,if_false]
  by_cases hf:w=iu
  ·rw[if_pos hf] at hv
   rw[aI hf]
   exact(AQ (v:=vB (decide (w=hJ))) (by show eS.size≤_; decide)).trans (aR _ hv)
  ·rw[if_neg hf] at hv
   rw[aE hf]
   by_cases ht:w=hJ
   ·rw[if_pos ht] at hv
    rw[aI ht]
    exact(AQ (v:=vB (decide (w=hJ))) (by show eS.size≤_; decide)).trans (aR _ hv)
   ·rw[if_neg ht] at hv
    rw[aE ht]
    cases h35:([35]:ac).isPrefixOf w with
    | true =>
     rw[if_pos h35] at hv
     simp only[if_true]
     exact TX.trans (aR _ hv)
    | false =>
     rw[if_neg (by rw[h35]; decide)] at hv
     simp only[Bool.false_eq_true,if_false]
     by_cases he:w=[]
     ·rw[if_neg (by simpa using he)] at hv
      simp only[he,decide_true,Bool.not_true,Bool.false_eq_true,if_false]
      rw[he] at hv aR
      exact(AQ (v:=v0) (w:=[]) (by decide)).trans (aR _ hv)
     ·rw[if_pos he] at hv
      simp only[he,decide_false,Bool.not_false,if_true,vj hw,Option.bind_some,D2]
      exact(AQ (v:=vN (cc w).1) (by show eS.size≤_; decide)).trans (aR _ hv)
end Go.Proofs.YtddiiceaindlhaaGreatDoor.Abs
set_option linter.unusedVariables false
set_option linter.unusedSimpArgs false
set_option linter.unusedSectionVars false
namespace Go.Proofs.YtddiiceaindlhaaGreatDoor.Abs
open Go
def zO (c:UInt8):Bool:=decide (c=32)
def bl (l:ac):ac:=l.dropWhile zO
def aF (c:UInt8):Bool:=eA c || dh c || decide (c=36)
theorem Tj:(fun c=>([32]:ac).contains c)=zO:=funext fun c=>o4 (p:=fun c=>([32]:ac).contains c=zO c) (by decide +kernel) c
theorem Tk:(fun c=>([65,66,67,68,69,70,71,72,73,74,75,76,77,78,79,80,81,82,83,84,85,86,87,88,89,90,48,49,50,51,52,53,54,55,56,57,36]:ac).contains c)=aF:=funext fun c=>o4 (p:=fun c=>([65,66,67,68,69,70,71,72,73,74,75,76,77,78,79,80,81,82,83,84,85,86,87,88,89,90,48,49,50,51,52,53,54,55,56,57,36]:ac).contains c=aF c) (by decide +kernel) c
theorem Ef (p:UInt8→Bool) : ∀ l:ac,(l.dropWhile p).dropWhile p=l.dropWhile p
 | []=>rfl
 | c :: l=>by
  cases h:p c with
  | true=>rw[List.dropWhile_cons_of_pos h,Ef p l]
  | false =>
   have h' : ¬p c=true:=by rw[h]; decide
   rw[List.dropWhile_cons_of_neg h',List.dropWhile_cons_of_neg h']
theorem dq (l:ac):bl (bl l)=bl l:=Ef _ _
theorem ap (l:ac):bl l <:+ l:=List.dropWhile_suffix _
theorem aB {a b:ac} (h:a <:+ b):a.length≤b.length:=h.length_le
theorem l6 (l:ac) (b:Bool) (ns:List aa):gP (ba l) b ns=some ((),((ba (bl l),ns,b,()),())):=by
 rw[Bf,show(⟨#[32]⟩:ByteArray)=ba [32] from rfl,vi _ _ (by decide +kernel),Tj]
 rfl
def Ru:List ac:=[[60,62],[60,61],[62,61],[60],[62],[61],[38],[43],[45],[42],[47],[40],[41],[44],[58]]
def sg (l:ac):ac:=(Ru.find? fun p=>p.isPrefixOf l).getD []
theorem Eg {l:ac} {b:Bool} {ns:List aa} (hl:l.length≤1000) {X:List ByteArray} (hX:X.length≤100) : ∀(ys:List ac) (pre:List ByteArray),X=pre++ys.map (fun x=>ba x)→kC (X.length:Int) (pre.length:Int) (ba l) b X ns=some ((ba ((ys.find? fun p=>p.isPrefixOf l).getD []),()),((ba l,ns,b,()),()))
 | [],pre,h=>by
  rw[qP,aE (ct (by simpa using h))]
  rfl
 | y :: ys,pre,h=>by
  have h':X=pre++ba y :: ys.map (fun x=>ba x):=by simpa using h
  have hd:List.getD X (Int.toNat (pre.length:Int)) (⟨#[]⟩:ByteArray)=ba y:=by rw[h']; exact j9
  rw[qP,aI (cK h'),ir h',hd,qU _ _ (by omega)]
  simp only[Option.bind_some,List.find?_cons]
  cases hy:y.isPrefixOf l with
  | true=>rfl
  | false =>
   simp only[Bool.false_eq_true,if_false]
   rw[bk h' (by omega)]
   exact Eg hl hX ys (pre++[ba y]) (by rw[h']; simp)
theorem JK {l:ac} {b:Bool} {ns:List aa} (hl:l.length≤1000):oC (ba l) b ns=some ((ba (sg (bl l)),()),((ba (bl l),ns,b,()),())):=by
 rw[DS,l6]
 simp only[Option.bind_some]
 have:=aB (ap l)
 exact Eg (by omega) (by decide) Ru [] rfl
theorem JL (l:ac):(sg l).isPrefixOf l=true:=by
 unfold sg
 cases h:Ru.find? fun p=>p.isPrefixOf l with
 | none=>simp
 | some p =>
  have:=List.find?_some h
  simpa using this
theorem AR {p l:ac} (h:p.isPrefixOf l=true):p.length≤l.length:=(List.isPrefixOf_iff_prefix.1 h).length_le
theorem cC {l w:ac} {b:Bool} {ns:List aa} (hl:l.length≤1000):aY (ba w) (ba l) b ns=some ((decide (sg (bl l)=w),()),((ba (if sg (bl l)=w then(bl l).drop w.length else bl l),ns,b,()),())):=by
 rw[DT,JK hl]
 simp only[Option.bind_some,cT]
 by_cases h:sg (bl l)=w
 ·have:=AR (JL (bl l))
  rw[h] at this
  simp only[h,decide_true,Bool.not_true,Bool.false_eq_true,if_false,if_true,aq]
  rw[fy this]
 ·simp[h]
def gO (y:UInt8) (a b:Bool):Int:=if y=60 then(if a=true then 7 else if b=true then 9 else 8) else if y=62 then(if b=true then 11 else 10) else if y=61 then 6 else if y=38 then 5 else if y=43 then 1 else if y=45 then 2 else if y=42 then 3 else if y=47 then 4 else 0
def gS (y:UInt8) (a b:Bool):ac:=if y=60 then(if a=true then [60,62] else if b=true then [60,61] else [60]) else if y=62 then(if b=true then [62,61] else [62]) else if y=61 then [61] else if y=38 then [38] else if y=43 then [43] else if y=45 then [45] else if y=42 then [42] else if y=47 then [47] else if y=40 then [40] else if y=41 then [41] else if y=44 then [44] else if y=58 then [58] else []
def dR (l:ac):Int:=match l with
 | []=>0
 | y :: t=>gO y (decide (t.head? = some 62)) (decide (t.head? = some 61))
def cZ (k:Int):ac:=([[],[43],[45],[42],[47],[38],[61],[60,62],[60],[60,61],[62],[62,61]]:List ac).getD k.toNat []
theorem FD (y:UInt8) (t:ac):sg (y :: t)=gS y (decide (t.head? = some 62)) (decide (t.head? = some 61)):=by
 unfold sg Ru
 simp only[List.find?_cons,List.find?_nil,f9,Cy]
 generalize decide (t.head? = some 62)=a
 generalize decide (t.head? = some 61)=b
 have : ∀ a b:Bool,(Option.getD (match decide (y=60) && a with | true=>some [60,62] | false=>match decide (y=60) && b with | true=>some [60,61] | false=>match decide (y=62) && b with | true=>some [62,61] | false=>match decide (y=60) with | true=>some [60] | false=>match decide (y=62) with | true=>some [62] | false=>match decide (y=61) with | true=>some [61] | false=>match decide (y=38) with | true=>some [38] | false=>match decide (y=43) with | true=>some [43] | false=>match decide (y=45) with | true=>some [45] | false=>match decide (y=42) with | true=>some [42] | false=>match decide (y=47) with | true=>some [47] | false=>match decide (y=40) with | true=>some [40] | false=>match decide (y=41) with | true=>some [41] | false=>match decide (y=44) with | true=>some [44] | false=>match decide (y=58) with | true=>some [58] | false=>none) []:ac)=gS y a b :=
  o4 (p:=fun y => ∀ a b:Bool,(Option.getD (match decide (y=60) && a with | true=>some [60,62] | false=>match decide (y=60) && b with | true=>some [60,61] | false=>match decide (y=62) && b with | true=>some [62,61] | false=>match decide (y=60) with | true=>some [60] | false=>match decide (y=62) with | true=>some [62] | false=>match decide (y=61) with | true=>some [61] | false=>match decide (y=38) with | true=>some [38] | false=>match decide (y=43) with | true=>some [43] | false=>match decide (y=45) with | true=>some [45] | false=>match decide (y=42) with | true=>some [42] | false=>match decide (y=47) with | true=>some [47] | false=>match decide (y=40) with | true=>some [40] | false=>match decide (y=41) with | true=>some [41] | false=>match decide (y=44) with | true=>some [44] | false=>match decide (y=58) with | true=>some [58] | false=>none) []:ac)=gS y a b) (by decide +kernel) y
 exact this a b
theorem gv {c:UInt8} (hc:c=45∨c=40∨c=41∨c=44∨c=58) (l:ac):(sg l=[c])=(l.head? = some c):=by
 apply propext
 constructor
 ·intro h
  have:=JL l
  rw[h,Cx] at this
  exact of_decide_eq_true this
 ·intro h
  cases l with
  | nil=>cases h
  | cons y t =>
   simp only[List.head?_cons,Option.some.injEq] at h
   subst h
   rw[FD]
   rcases hc with rfl | rfl | rfl | rfl | rfl <;> rfl
def Tl (s:ac):Int:=if cZ 11=s then 11 else if cZ 10=s then 10 else if cZ 9=s then 9 else if cZ 8=s then 8 else if cZ 7=s then 7 else if cZ 6=s then 6 else if cZ 5=s then 5 else if cZ 4=s then 4 else if cZ 3=s then 3 else if cZ 2=s then 2 else if cZ 1=s then 1 else 0
theorem JM (y:UInt8) : ∀ a b:Bool,Tl (gS y a b)=gO y a b∧(gO y a b≠0→gS y a b=cZ (gO y a b))∧0≤gO y a b∧gO y a b≤11 :=
 o4 (p:=fun y => ∀ a b:Bool,Tl (gS y a b)=gO y a b∧(gO y a b≠0→gS y a b=cZ (gO y a b))∧0≤gO y a b∧gO y a b≤11) (by decide +kernel) y
theorem Tm (l:ac):Tl (sg l)=dR l:=by
 cases l with
 | nil=>decide
 | cons y t =>
  rw[FD]
  exact(JM y _ _).1
theorem pV {l:ac} (h:dR l≠0):sg l=cZ (dR l):=by
 cases l with
 | nil=>exact absurd rfl h
 | cons y t =>
  rw[FD]
  exact(JM y _ _).2.1 h
theorem lm (l:ac):0≤dR l∧dR l≤11:=by
 cases l with
 | nil=>decide
 | cons y t=>exact(JM y _ _).2.2
theorem xI {k:Int} (h0:0≤k) (h1:k≤11):wb k=some ((ba (cZ k),()),()):=by
 rw[MQ,jg h0 (by show k < 12; omega)]
 have : ∀ k:Fin 12,List.getD ([(⟨#[]⟩:ByteArray),(⟨#[43]⟩:ByteArray),(⟨#[45]⟩:ByteArray),(⟨#[42]⟩:ByteArray),(⟨#[47]⟩:ByteArray),(⟨#[38]⟩:ByteArray),(⟨#[61]⟩:ByteArray),(⟨#[60,62]⟩:ByteArray),(⟨#[60]⟩:ByteArray),(⟨#[60,61]⟩:ByteArray),(⟨#[62]⟩:ByteArray),(⟨#[62,61]⟩:ByteArray)]:(List ByteArray)) k.val (⟨#[]⟩:ByteArray)=ba (cZ (k.val:Int)):=by decide +kernel
 have h:=this ⟨k.toNat,by omega⟩
 simp only[Int.toNat_of_nonneg h0] at h
 rw[h]
theorem rZ {k:Int} (h0:0≤k) (h1:k≤11):kf k=some ((ba (cZ k),()),()):=by
 rw[ME,jg h0 (by show k < 12; omega)]
 have : ∀ k:Fin 12,List.getD ([(⟨#[]⟩:ByteArray),(⟨#[43]⟩:ByteArray),(⟨#[45]⟩:ByteArray),(⟨#[42]⟩:ByteArray),(⟨#[47]⟩:ByteArray),(⟨#[38]⟩:ByteArray),(⟨#[61]⟩:ByteArray),(⟨#[60,62]⟩:ByteArray),(⟨#[60]⟩:ByteArray),(⟨#[60,61]⟩:ByteArray),(⟨#[62]⟩:ByteArray),(⟨#[62,61]⟩:ByteArray)]:(List ByteArray)) k.val (⟨#[]⟩:ByteArray)=ba (cZ (k.val:Int)):=by decide +kernel
 have h:=this ⟨k.toNat,by omega⟩
 simp only[Int.toNat_of_nonneg h0] at h
 rw[h]
theorem GO {least deep left op k:Int} {l:ac} {b:Bool} {ns:List aa} (hl:l.length≤1000) (h0:0≤k) (h1:k≤11) :
  cn least deep left op k (ba l) b ns=cn least deep left (if cZ k=sg (bl l) then k else op) (k+1) (ba (bl l)) b ns:=by
 rw[oW,aI h1,JK hl]
 simp only[Option.bind_some]
 rw[xI h0 h1]
 simp only[Option.bind_some,cT,decide_eq_true_eq]
 rw[wr (by omega) (by omega)]
 by_cases h:sg (bl l)=cZ k
 ·rw[if_pos h,if_pos h.symm]
 ·rw[if_neg h,if_neg (Ne.symm h)]
theorem tA {least deep left:Int} {l:ac} {b:Bool} {ns:List aa} (hl:l.length≤1000) :
  cn least deep left 0 1 (ba l) b ns=cn least deep left (dR (bl l)) 12 (ba (bl l)) b ns:=by
 have:=aB (ap l)
 have st : ∀(op k:Int),0≤k→k≤11→cn least deep left op k (ba (bl l)) b ns=cn least deep left (if cZ k=sg (bl l) then k else op) (k+1) (ba (bl l)) b ns:=by
  intro op k h0 h1
  rw[GO (by omega) h0 h1,dq]
 rw[GO hl (by decide) (by decide),st _ (1+1) (by decide) (by decide),st _ (1+1+1) (by decide) (by decide),st _ (1+1+1+1) (by decide) (by decide),st _ (1+1+1+1+1) (by decide) (by decide),st _ (1+1+1+1+1+1) (by decide) (by decide),
  st _ (1+1+1+1+1+1+1) (by decide) (by decide),st _ (1+1+1+1+1+1+1+1) (by decide) (by decide),st _ (1+1+1+1+1+1+1+1+1) (by decide) (by decide),st _ (1+1+1+1+1+1+1+1+1+1) (by decide) (by decide),st _ (1+1+1+1+1+1+1+1+1+1+1) (by decide) (by decide)]
 rw[←Tm (bl l)]
 rfl
def bE (s l:ac):Int:=(s.length:Int) - (l.length:Int)
theorem nd {s l:ac} (h:l <:+ s) : ∃ pre,s=pre++l∧bE s l=(pre.length:Int):=by
 obtain⟨pre,h⟩:=h
 refine⟨pre,h.symm,?_⟩
 unfold bE
 rw[←h,List.length_append]
 omega
theorem Eh {s:ac} {b:Bool} {ns:List aa} (hs:s.length≤1000) : ∀(l:ac),l <:+ s→kB (ba s) (bE s l) b ns=some ((),((ba s,bE s (bl l),b,ns,()),()))
 | [],h=>by
  rw[qO,aE (by rw[aq]; unfold bE; simp)]
  rfl
 | c :: l,h=>by
  obtain⟨pre,h1,h2⟩:=nd h
  have hl:pre.length < s.length:=by rw[h1]; simp
  rw[qO,h2,aI (by rw[aq]; omega),jY h1]
  by_cases hc:c=32
  ·subst hc
   have hl':l <:+ s:=List.IsSuffix.trans (List.suffix_cons _ _) h
   rw[if_pos (by rfl),wr (by omega) (by omega)]
   have e:(pre.length:Int)+1=bE s l:=by
    rw[←h2]
    unfold bE
    rw[List.length_cons]
    omega
   rw[e,Eh hs l hl']
   rfl
  ·have h0' : ¬((c.toNat:Int) == 32)=true:=by
    simp only[beq_iff_eq]
    intro e
    apply hc
    apply UInt8.toNat_inj.1
    show c.toNat=32
    omega
   rw[if_neg h0',←h2]
   have:bl (c :: l)=c :: l:=List.dropWhile_cons_of_neg (by simp[zO,hc])
   rw[this]
theorem JN {s l:ac} {b:Bool} {ns:List aa} (hs:s.length≤1000) (h:l <:+ s):i7 (ba s) (bE s l) b ns=some ((),((ba s,bE s (bl l),b,ns,()),())):=by
 rw[DN]
 exact Eh hs l h
theorem ae {a b c:ac} (h:a <:+ b) (k:b <:+ c):a <:+ c:=List.IsSuffix.trans h k
theorem fC (n:Nat) (l:ac):l.drop n <:+ l:=List.drop_suffix n l
theorem g7 {s l w:ac} {b:Bool} {ns:List aa} (hs:s.length≤1000) (hw:w.length≤1000) (h:l <:+ s) :
  dK (ba w) (ba s) (bE s l) b ns=some (((!b && w.isPrefixOf (bl l)),()),((ba s,bE s (if(!b && w.isPrefixOf (bl l))=true then(bl l).drop w.length else bl l),b,ns,()),())):=by
 have hb:=ae (ap l) h
 rw[KI,JN hs h]
 simp only[Option.bind_some]
 cases b with
 | true=>rfl
 | false =>
  simp only[Bool.false_eq_true,if_false,Bool.not_false,Bool.true_and,aq]
  generalize bl l=m at hb
  obtain⟨pre,h1,h2⟩:=nd hb
  have hl:pre.length+m.length=s.length:=by rw[h1]; simp
  rw[h2,wr (by omega) (by omega)]
  by_cases hm:w.length≤m.length
  ·rw[aE (by omega),show(pre.length:Int)+(w.length:Int)=((pre.length+w.length:Nat):Int) by omega,wA (by omega) (by omega),cT]
   have e:(s.take (pre.length+w.length)).drop pre.length=m.take w.length:=by
    rw[h1,List.take_append,List.drop_append]
    simp
   rw[e]
   have e2:decide (m.take w.length=w)=w.isPrefixOf m:=by
    rw[Bool.eq_iff_iff,decide_eq_true_eq,List.isPrefixOf_iff_prefix,List.prefix_iff_eq_take]
    exact eq_comm
   rw[e2]
   cases w.isPrefixOf m with
   | true =>
    simp only[Bool.not_true,Bool.false_eq_true,if_false,if_true]
    have e5:((pre.length+w.length:Nat):Int)=bE s (m.drop w.length):=by
     unfold bE
     rw[List.length_drop]
     omega
    rw[e5]
   | false =>
    simp only[Bool.not_false,if_true,Bool.false_eq_true,if_false]
    rw[h2]
  ·rw[aI (by omega)]
   have e2:w.isPrefixOf m=false:=by
    rw[Bool.eq_false_iff]
    intro hp
    exact hm (AR hp)
   rw[e2]
   simp only[Bool.false_eq_true,if_false]
   rw[h2]
theorem xJ {l:ac} {b:Bool} {ns:List aa} (hl:l.length≤1000):ja (ba l) b ns=some ((ba ((bl l).takeWhile aF),()),((ba ((bl l).dropWhile aF),ns,b,()),())):=by
 have:=aB (ap l)
 obtain⟨d1,d2,d3⟩:=zK aF (bl l)
 rw[DU,l6]
 simp only[Option.bind_some]
 rw[vi _ _ (by decide +kernel),Tk]
 simp only[Option.bind_some,aq]
 rw[wr (by omega) (by omega),show((bl l).length:Int) - (((bl l).dropWhile aF).length:Int)=(((bl l).length - ((bl l).dropWhile aF).length:Nat):Int) by omega,Eb (by omega),fy (by omega),d1,d2]
theorem GP {s pre l:ac} {w:Nat} {b:Bool} {ns:List aa} (h:s=pre++l) (hw:w≤pre.length) :
  (tY (ba s) (w:Int) (pre.length:Int) fun y6=>(some ((y6,()),((ba s,(pre.length:Int),b,ns,()),()))))=(some ((ba (pre.drop w),()),((ba s,bE s l,b,ns,()),())):Option ((ByteArray×Unit)×(kb×Unit))):=by
 have hl:pre.length+l.length=s.length:=by rw[h]; simp
 rw[wA hw (by omega)]
 congr 3
 ·congr 1
  rw[h,List.take_left' rfl]
 ·unfold bE
  congr 3
  omega
theorem Ei {s:ac} {b:Bool} {ns:List aa} (hs:s.length≤1000) {w:Nat} : ∀(l pre:ac),s=pre++l→w≤pre.length→dQ (w:Int) (ba s) (pre.length:Int) b ns=some ((ba (pre.drop w++l.takeWhile aF),()),((ba s,bE s (l.dropWhile aF),b,ns,()),()))
 | [],pre,h,hw=>by
  have hl:pre.length=s.length:=by rw[h]; simp
  rw[tj,aE (by rw[aq]; omega)]
  simpa using GP (b:=b) (ns:=ns) h hw
 | y :: l,pre,h,hw=>by
  have hl:pre.length < s.length:=by rw[h]; simp
  have ih:=Ei (b:=b) (ns:=ns) hs (w:=w) l (pre++[y]) (by rw[h]; simp) (by rw[List.length_append]; omega)
  rw[show((pre++[y]).length:Int)=(pre.length:Int)+1 by simp,List.drop_append_of_le_length hw] at ih
  have he:=GP (b:=b) (ns:=ns) h hw
  rw[tj,aI (by rw[aq]; omega)]
  simp only[jY h]
  rw[wr (by omega) (by omega)]
  have h36:((y.toNat:Int) == 36)=decide (y=36):=by
   rw[Bool.eq_iff_iff,beq_iff_eq,decide_eq_true_eq]
   constructor
   ·intro e
    apply UInt8.toNat_inj.1
    show y.toNat=36
    omega
   ·rintro rfl
    rfl
  rw[h36]
  cases hy:aF y with
  | true =>
   have e1:(y :: l).takeWhile aF=y :: l.takeWhile aF:=List.takeWhile_cons_of_pos hy
   have e2:(y :: l).dropWhile aF=l.dropWhile aF:=List.dropWhile_cons_of_pos hy
   rw[e1,e2]
   have e3:pre.drop w++y :: l.takeWhile aF=pre.drop w++[y]++l.takeWhile aF:=by simp
   rw[e3,←ih]
   simp only[aF,eA,dh,Bool.or_eq_true,Bool.and_eq_true,decide_eq_true_eq] at hy
   by_cases c1:65≤y.toNat
   ·rw[aI (by omega)]
    by_cases c2:y.toNat≤90
    ·rw[aI (by omega)]
    ·rw[aE (by omega),aI (by omega),aE (by omega)]
     exfalso
     rcases hy with(hy | hy) | rfl
     ·omega
     ·omega
     ·exact absurd c1 (by decide)
   ·rw[aE (by omega)]
    by_cases c3:48≤y.toNat
    ·rw[aI (by omega)]
     by_cases c4:y.toNat≤57
     ·rw[aI (by omega)]
     ·rw[aE (by omega)]
      exfalso
      rcases hy with(hy | hy) | rfl
      ·omega
      ·omega
      ·exact absurd c3 (by decide)
    ·rw[aE (by omega)]
     have:y=36:=by
      rcases hy with(hy | hy) | hy
      ·omega
      ·omega
      ·exact hy
     rw[aI this]
  | false =>
   have e1:(y :: l).takeWhile aF=[]:=List.takeWhile_cons_of_neg (by rw[hy]; decide)
   have e2:(y :: l).dropWhile aF=y :: l:=List.dropWhile_cons_of_neg (by rw[hy]; decide)
   rw[e1,e2,List.append_nil,←he]
   simp only[aF,eA,dh,Bool.or_eq_false_iff,Bool.and_eq_false_iff,decide_eq_false_iff_not] at hy
   obtain⟨⟨k1,k2⟩,k3⟩:=hy
   by_cases c1:65≤y.toNat
   ·rw[aI (by omega),aE (by omega),aI (by omega),aE (by omega),aE k3]
   ·rw[aE (by omega)]
    by_cases c3:48≤y.toNat
    ·rw[aI (by omega),aE (by omega),aE k3]
    ·rw[aE (by omega),aE k3]
theorem CC {s l:ac} {b:Bool} {ns:List aa} (hs:s.length≤1000) (h:l <:+ s):lH (ba s) (bE s l) b ns=some ((ba (l.takeWhile aF),()),((ba s,bE s (l.dropWhile aF),b,ns,()),())):=by
 obtain⟨pre,h1,h2⟩:=nd h
 rw[Hv,h2,Ei hs l pre h1 (Nat.le_refl _)]
 simp
end Go.Proofs.YtddiiceaindlhaaGreatDoor.Abs
set_option linter.unusedVariables false
set_option linter.unusedSimpArgs false
set_option linter.unusedSectionVars false
namespace Go.Proofs.YtddiiceaindlhaaGreatDoor.Abs
open Go
def cg (k:Int):Int:=if k≥6 then 1 else if k=5 then 2 else if k≥3 then 4 else 3
theorem vk (k:Int):sS k=some ((cg k,()),()):=by
 rw[KM]
 unfold cg
 simp only[decide_eq_true_eq,beq_iff_eq]
 repeat' split
 all_goals first | rfl | omega
theorem GQ {k:Int} (h0:1≤k) (h1:k≤11):zo k=some ((cg k,()),()):=by
 rw[OI]
 unfold cg
 simp only[beq_iff_eq]
 repeat' split
 all_goals first | rfl | omega
abbrev tB:List Int:=[7,9,11,6,8,10,1,2,3,4,5]
def yw (L:Int) (m:ac) (k:Int):Bool:=decide (cg k=L) && (cZ k).isPrefixOf m
theorem wD (k:Int):(cZ k).length≤2:=by
 unfold cZ
 have : ∀ i:Nat,(([[],[43],[45],[42],[47],[38],[61],[60,62],[60],[60,61],[62],[62,61]]:List ac).getD i []).length≤2:=by
  intro i
  by_cases hi:i < 12
  ·have h : ∀ j:Fin 12,(([[],[43],[45],[42],[47],[38],[61],[60,62],[60],[60,61],[62],[62,61]]:List ac).getD j.val []).length≤2:=by decide
   exact h ⟨i,hi⟩
  ·rw[List.getD_eq_getElem?_getD,List.getElem?_eq_none (by simp; omega)]
   simp
 exact this _
section
variable {s:ac} {ns:List aa} {L:Int}
def xK (s l l':ac) (ns:List aa):Option Int→Option ((Int×Unit)×(kb×Unit))
 | some k=>some ((k,()),((ba s,bE s ((bl l).drop (cZ k).length),false,ns,()),()))
 | none=>some ((0,()),((ba s,bE s l',false,ns,()),()))
theorem Tn {pre ys:List Int} {k:Int} (h:tB=pre++k :: ys):List.getD tB (Int.toNat (pre.length:Int)) 0=k:=by rw[h]; exact j9
theorem GR {k:Int} (h:k∈tB):1≤k∧k≤11:=by
 have : ∀ k∈tB,1≤k∧k≤11:=by decide
 exact this k h
theorem zP (hs:s.length≤1000) : ∀(ys pre:List Int) (l:ac),tB=pre++ys→l <:+ s → ∃ l',(l'=l∨l'=bl l)∧li L (pre.length:Int) (ba s) (bE s l) false tB ns=xK s l l' ns (ys.find? (yw L (bl l)))
 | [],pre,l,h,hl=>by
  refine⟨l,.inl rfl,?_⟩
  rw[uz,aE (ct h)]
  rfl
 | k :: ys,pre,l,h,hl=>by
  have hk:=GR (k:=k) (by rw[h]; simp)
  rw[uz,aI (cK h),ir h,Tn h,vk]
  simp only[Option.bind_some,List.find?_cons,beq_iff_eq]
  by_cases hL:cg k=L
  ·rw[if_pos hL,ir h,rZ (by omega) (by omega)]
   simp only[Option.bind_some]
   have:=wD k
   rw[g7 hs (by omega) hl]
   simp only[Option.bind_some,Bool.not_false,Bool.true_and]
   cases hp:(cZ k).isPrefixOf (bl l) with
   | true =>
    simp only[if_true,yw,hL,decide_true,Bool.true_and,hp]
    rw[ir h]
    exact⟨l,.inl rfl,rfl⟩
   | false =>
    simp only[Bool.false_eq_true,if_false,yw,hL,decide_true,Bool.true_and,hp]
    rw[bk h (by decide)]
    obtain⟨l',h1,h2⟩:=zP hs ys (pre++[k]) (bl l) (aZ h) (ae (ap l) hl)
    rw[dq] at h1 h2
    refine⟨l',.inr (by simpa using h1),?_⟩
    rw[h2]
    unfold xK
    rw[dq]
  ·rw[if_neg hL,bk h (by decide)]
   obtain⟨l',h1,h2⟩:=zP hs ys (pre++[k]) l (aZ h) hl
   refine⟨l',h1,?_⟩
   rw[h2]
   simp[yw,hL]
theorem JO (hs:s.length≤1000) : ∀(ys pre:List Int) (l:ac),tB=pre++ys→l <:+ s → ∃ l',(l'=l∨l'=bl l)∧qn L (pre.length:Int) (ba s) (bE s l) false ns tB=xK s l l' ns (ys.find? (yw L (bl l)))
 | [],pre,l,h,hl=>by
  refine⟨l,.inl rfl,?_⟩
  rw[wo,aE (ct h)]
  rfl
 | k :: ys,pre,l,h,hl=>by
  have hk:=GR (k:=k) (by rw[h]; simp)
  rw[wo,aI (cK h),ir h,Tn h,vk]
  simp only[Option.bind_some,List.find?_cons,beq_iff_eq]
  by_cases hL:cg k=L
  ·rw[if_pos hL,ir h,rZ (by omega) (by omega)]
   simp only[Option.bind_some]
   have:=wD k
   rw[g7 hs (by omega) hl]
   simp only[Option.bind_some,Bool.not_false,Bool.true_and]
   cases hp:(cZ k).isPrefixOf (bl l) with
   | true =>
    simp only[if_true,yw,hL,decide_true,Bool.true_and,hp]
    rw[ir h]
    exact⟨l,.inl rfl,rfl⟩
   | false =>
    simp only[Bool.false_eq_true,if_false,yw,hL,decide_true,Bool.true_and,hp]
    rw[bk h (by decide)]
    obtain⟨l',h1,h2⟩:=zP (L:=L) (ns:=ns) hs ys (pre++[k]) (bl l) (aZ h) (ae (ap l) hl)
    rw[dq] at h1 h2
    refine⟨l',.inr (by simpa using h1),?_⟩
    rw[h2]
    unfold xK
    rw[dq]
  ·rw[if_neg hL,bk h (by decide)]
   obtain⟨l',h1,h2⟩:=JO hs ys (pre++[k]) l (aZ h) hl
   refine⟨l',h1,?_⟩
   rw[h2]
   simp[yw,hL]
end
theorem Ej {α:Type} {p q:α→Bool} : ∀ {l:List α},(∀ x∈l,p x=q x)→l.find? p=l.find? q
 | [],_=>rfl
 | x :: l,h=>by
  rw[List.find?_cons,List.find?_cons,h x (by simp),Ej (fun y hy=>h y (List.mem_cons_of_mem _ hy))]
def pS (k:Int) (y:UInt8) (a b:Bool):Bool:=if k=7 then decide (y=60) && a else if k=9 then decide (y=60) && b else if k=11 then decide (y=62) && b else if k=6 then decide (y=61) else if k=8 then decide (y=60) else if k=10 then decide (y=62) else if k=1 then decide (y=43) else if k=2 then decide (y=45) else if k=3 then decide (y=42) else if k=4 then decide (y=47) else decide (y=38)
theorem TY (y:UInt8) (t:ac) : ∀ k∈tB,(cZ k).isPrefixOf (y :: t)=pS k y (decide (t.head? = some 62)) (decide (t.head? = some 61)):=by
 intro k hk
 have:k=7∨k=9∨k=11∨k=6∨k=8∨k=10∨k=1∨k=2∨k=3∨k=4∨k=5:=by simpa using hk
 rcases this with rfl | rfl | rfl | rfl | rfl | rfl | rfl | rfl | rfl | rfl | rfl
 ·exact Cy y t 60 62
 ·exact Cy y t 60 61
 ·exact Cy y t 62 61
 ·exact f9 y t 61
 ·exact f9 y t 60
 ·exact f9 y t 62
 ·exact f9 y t 43
 ·exact f9 y t 45
 ·exact f9 y t 42
 ·exact f9 y t 47
 ·exact f9 y t 38
def fS (L:Int) (y:UInt8) (a b:Bool):Prop:=tB.find? (fun k=>decide (cg k=L) && pS k y a b)=if gO y a b≠0∧cg (gO y a b)=L then some (gO y a b) else none
instance (L:Int) (y:UInt8) (a b:Bool):Decidable (fS L y a b):=by unfold fS; infer_instance
theorem To (y:UInt8) : ∀ a b:Bool,fS 1 y a b∧fS 2 y a b∧fS 3 y a b∧fS 4 y a b :=
 o4 (p:=fun y => ∀ a b:Bool,fS 1 y a b∧fS 2 y a b∧fS 3 y a b∧fS 4 y a b) (by decide +kernel) y
theorem QH {L:Int} (hL:L=1∨L=2∨L=3∨L=4) (m:ac):tB.find? (yw L m)=if dR m≠0∧cg (dR m)=L then some (dR m) else none:=by
 cases m with
 | nil =>
  have : ∀ k∈tB,(cZ k).isPrefixOf ([]:ac)=false:=by decide
  have h0:dR ([]:ac)=0:=rfl
  rw[h0,if_neg (by simp),List.find?_eq_none]
  intro k hk
  unfold yw
  rw[this k hk,Bool.and_false]
  decide
 | cons y t =>
  have e:tB.find? (yw L (y :: t))=tB.find? (fun k=>decide (cg k=L) && pS k y (decide (t.head? = some 62)) (decide (t.head? = some 61))):=Ej fun k hk=>by
   unfold yw
   rw[TY y t k hk]
  rw[e]
  obtain⟨h1,h2,h3,h4⟩:=To y (decide (t.head? = some 62)) (decide (t.head? = some 61))
  rcases hL with rfl | rfl | rfl | rfl
  ·exact h1
  ·exact h2
  ·exact h3
  ·exact h4
theorem Tp {s l:ac} {ns:List aa} {L:Int} (hs:s.length≤1000) (hL:L=1∨L=2∨L=3∨L=4) (h:l <:+ s) :
  ∃ l',(l'=l∨l'=bl l)∧Ci L (ba s) (bE s l) false ns=xK s l l' ns (if dR (bl l)≠0∧cg (dR (bl l))=L then some (dR (bl l)) else none):=by
 rw[KN,←QH hL]
 exact JO hs tB [] l rfl h
theorem wE {x:aa} {l:ac} {b:Bool} {ns:List aa} (hn:ns.length≤60) :
  ∃ i,ay x (ba l) b ns=some ((i,()),((ba l,(if b=false∧ns.length < 60 then ns++[x] else ns),(b || decide (60≤ns.length)),()),()))∧(b=false→ns.length < 60→i=(ns.length:Int)):=by
 rw[Fs]
 cases b with
 | true=>exact⟨_,rfl,fun h=>by cases h⟩
 | false =>
  simp only[Bool.false_eq_true,if_false,true_and,Bool.false_or]
  by_cases h:ns.length < 60
  ·have e1:decide ((ns.length:Int)≥60)=false:=decide_eq_false (by omega)
   have e2:decide (60≤ns.length)=false:=decide_eq_false (by omega)
   rw[e1,e2,if_pos h]
   simp only[Bool.not_false,if_true]
   have hl:(ns++[x]).length=ns.length+1:=by simp
   rw[bG (by simp only[List.length_singleton]; omega),wr (by omega) (by omega)]
   exact⟨_,rfl,fun _ _=>by omega⟩
  ·have e1:decide ((ns.length:Int)≥60)=true:=decide_eq_true (by omega)
   have e2:decide (60≤ns.length)=true:=decide_eq_true (by omega)
   rw[e1,e2,if_neg h]
   exact⟨_,rfl,fun _ h'=>absurd h' h⟩
theorem FE {x:aa} {s:ac} {a:Int} {b:Bool} {ns:List aa} (hn:ns.length≤1000) (hx:x.2.2.1.2.2.1.size≤9223372036854775807) :
  b7 x (ba s) a b ns=some (((ns.length:Int),()),((ba s,a,(b || decide (60≤ns.length) || !bH x),ns++[x],()),())):=by
 rw[Jk,bG (by simp only[List.length_singleton]; omega)]
 have e:IntKind.i64.wrap (((ns++[x]).length:Int) - 1)=(ns.length:Int):=by
  rw[List.length_append,List.length_singleton,wr (by omega) (by omega)]
  omega
 rw[e,fO hx]
 simp only[Option.bind_some]
 by_cases h:60≤ns.length
 ·rw[aI (by rw[List.length_append,List.length_singleton]; omega)]
  simp[h]
 ·rw[aE (by rw[List.length_append,List.length_singleton]; omega)]
  cases bH x <;> simp[h]
end Go.Proofs.YtddiiceaindlhaaGreatDoor.Abs
set_option linter.unusedVariables false
set_option linter.unusedSimpArgs false
set_option linter.unusedSectionVars false
namespace Go.Proofs.YtddiiceaindlhaaGreatDoor.Abs
open Go
theorem FF (c:UInt8) (t:ac) : ∀ pre:ac,c ∉ pre→Lib.indexByte (pre++c :: t) c=(pre.length:Int)
 | [],_=>by simp[Lib.indexByte]
 | b :: pre,h=>by
  simp only[List.mem_cons,not_or] at h
  have hb : ¬b=c:=fun e=>h.1 e.symm
  have ih:=FF c t pre h.2
  simp only[List.cons_append,Lib.indexByte,ih]
  have : ¬((pre.length:Int) = -1):=by omega
  simp[hb,this]
theorem JP (c:UInt8) : ∀ pre:ac,c ∉ pre→Lib.indexByte pre c = -1
 | [],_=>rfl
 | b :: pre,h=>by
  simp only[List.mem_cons,not_or] at h
  have hb : ¬b=c:=fun e=>h.1 e.symm
  simp only[Lib.indexByte,JP c pre h.2]
  simp[hb]
theorem Sc {c:UInt8} {pre t:ac} (h:c ∉ pre):Lib.cut (pre++c :: t) [c]=(pre,t,true):=by
 unfold Lib.cut
 rw[Lib.index_one,FF c t pre h,if_pos (by omega)]
 simp only[Int.toNat_natCast,List.length_singleton,Prod.mk.injEq,and_true]
 refine⟨List.take_left' rfl,?_⟩
 have:pre++c :: t=(pre++[c])++t:=by simp
 rw[this,List.drop_left' (by simp)]
theorem QI {c:UInt8} {s:ac} (h:c ∉ s):Lib.cut s [c]=(s,[],false):=by
 unfold Lib.cut
 rw[Lib.index_one,JP c s h,if_neg (by omega)]
theorem Sd {x c:ac} (hx:x.length < 4294967281):strings_Cut (ba x) (ba c)=some ((ba (Lib.cut x c).1,ba (Lib.cut x c).2.1,(Lib.cut x c).2.2,()),()):=by
 rw[Ft]
 show(if(ba x).size < 4294967281 then some (((⟨(Lib.cut (lb (ba x)) (lb (ba c))).1.toArray⟩:ByteArray),(⟨(Lib.cut (lb (ba x)) (lb (ba c))).2.1.toArray⟩:ByteArray),(Lib.cut (lb (ba x)) (lb (ba c))).2.2,()),()) else none)=_
 rw[if_pos (by rw[aq]; exact hx),dw,dw]
theorem CD (c:UInt8) : ∀ s:ac,c∈s → ∃ pre t,s=pre++c :: t∧c ∉ pre
 | b :: s,h=>by
  by_cases hb:b=c
  ·exact⟨[],s,by rw[hb]; rfl,by simp⟩
  ·obtain⟨pre,t,h1,h2⟩:=CD c s (by rcases List.mem_cons.1 h with e | e; exact absurd e.symm hb; exact e)
   exact⟨b :: pre,t,by rw[h1]; rfl,by simp only[List.mem_cons,not_or]; exact⟨Ne.symm hb,h2⟩⟩
def qt:ac→Option (ac×ac)
 | []=>none
 | c :: l=>if c=34 then(match l with
   | []=>some ([],[])
   | d :: l'=>if d=34 then(qt l').map (fun p=>(34 :: p.1,p.2)) else some ([],d :: l'))
  else(qt l).map fun p=>(c :: p.1,p.2)
theorem xL {c:UInt8} {l:ac} (h:c≠34):qt (c :: l)=(qt l).map fun p=>(c :: p.1,p.2):=by
 rw[qt.eq_def]
 simp only[if_neg h]
theorem Ek:qt [34]=some ([],[]):=by
 rw[qt.eq_def]
 rfl
theorem El {l:ac}:qt (34 :: 34 :: l)=(qt l).map fun p=>(34 :: p.1,p.2):=by
 rw[qt.eq_def]
 rfl
theorem AU {d:UInt8} {l:ac} (h:d≠34):qt (34 :: d :: l)=some ([],d :: l):=by
 rw[qt.eq_def]
 simp only[if_true,if_neg h]
theorem JQ (l:ac) : ∀ pre:ac,(34:UInt8) ∉ pre→qt (pre++l)=(qt l).map fun p=>(pre++p.1,p.2)
 | [],_=>by simp
 | b :: pre,h=>by
  simp only[List.mem_cons,not_or] at h
  have hb : ¬b=34:=fun e=>h.1 e.symm
  rw[List.cons_append,xL hb,JQ l pre h.2,Option.map_map]
  rfl
theorem Se {s:ac} (h:(34:UInt8) ∉ s):qt s=none:=by
 have:=JQ [] s h
 rw[List.append_nil] at this
 rw[this]
 rfl
theorem O3 : ∀(l t r:ac),qt l=some (t,r)→r <:+ l∧t.length≤l.length∧r.length < l.length:=by
 intro l
 induction hn:l.length using Nat.strongRecOn generalizing l with
 | ind n ih =>
  intro t r h
  subst hn
  cases l with
  | nil=>cases h
  | cons c l =>
   by_cases hc:c=34
   ·subst hc
    cases l with
    | nil =>
     rw[Ek] at h
     cases h
     exact⟨⟨[34],rfl⟩,by simp,by simp⟩
    | cons d l' =>
     by_cases hd:d=34
     ·subst hd
      rw[El,Option.map_eq_some_iff] at h
      obtain⟨⟨t',r'⟩,h1,h2⟩:=h
      cases h2
      obtain⟨k1,k2,k3⟩:=ih l'.length (by simp only[List.length_cons]; omega) l' rfl t' r' h1
      refine⟨ae k1 ⟨[34,34],rfl⟩,?_,?_⟩
      ·simp only[List.length_cons]; omega
      ·simp only[List.length_cons]; omega
     ·rw[AU hd] at h
      cases h
      exact⟨⟨[34],rfl⟩,by simp,by simp⟩
   ·rw[xL hc,Option.map_eq_some_iff] at h
    obtain⟨⟨t',r'⟩,h1,h2⟩:=h
    cases h2
    obtain⟨k1,k2,k3⟩:=ih l.length (by simp) l rfl t' r' h1
    refine⟨ae k1 ⟨[c],rfl⟩,?_,?_⟩
    ·simp only[List.length_cons]; omega
    ·simp only[List.length_cons]; omega
abbrev nC (v:ax):aa:=(1,0,v,((0,0,()),false,false,()),((0,0,()),false,false,()),([]:(List Int)),())
noncomputable def iQ (out:ac) (r:ByteArray) (b:Bool) (ns:List aa):Option (ac×ac)→Option ((Int×Unit)×(pE×Unit))
 | none=>some ((-1,()),((r,ns,true,()),()))
 | some p=>bD (2,0,ba (out++p.1),()) (ba p.2) b ns
theorem AV {F:Option ((Int×Unit)×(pE×Unit))}:(F.bind fun z3=>(some ((z3.1.1,()),(z3.2.1,()))))=F:=by
 cases F with
 | none=>rfl
 | some z=>rfl
theorem gl {F:Option ((Int×Unit)×(kb×Unit))}:(F.bind fun z3=>(some ((z3.1.1,()),(z3.2.1,()))))=F:=by
 cases F with
 | none=>rfl
 | some z=>rfl
theorem JR {r:ByteArray} {b:Bool} {ns:List aa} : ∀(x out:ac),out.length+x.length≤1000→iR (ba out) (ba x) r b ns=iQ out r b ns (qt x):=by
 intro x
 induction hn:x.length using Nat.strongRecOn generalizing x with
 | ind n ih =>
  intro out hl
  rw[xD,show(⟨#[34]⟩:ByteArray)=ba [34] from rfl,Sd (by omega)]
  simp only[Option.bind_some]
  by_cases hm:(34:UInt8)∈x
  ·obtain⟨pre,t,h1,h2⟩:=CD 34 x hm
   have hx:x.length=pre.length+t.length+1:=by rw[h1]; simp; omega
   rw[h1,Sc h2,JQ _ pre h2]
   simp only[Bool.not_true,Bool.false_eq_true,if_false]
   rw[bm (by omega),qU t [34] (by omega)]
   simp only[Option.bind_some,AV]
   cases t with
   | nil =>
    rw[Ek,show([34]:ac).isPrefixOf ([]:ac)=false from rfl]
    simp[iQ]
   | cons d l' =>
    by_cases hd:d=34
    ·subst hd
     rw[List.length_cons] at hx
     have e1:([34]:ac).isPrefixOf (34 :: l')=true:=by rw[f9]; rfl
     rw[e1]
     simp only[Bool.not_true,Bool.false_eq_true,if_false]
     rw[bm (by simp only[List.length_append,List.length_singleton]; omega),show(1:Int)=((1:Nat):Int) from rfl,fy (by simp)]
     simp only[List.drop_succ_cons,List.drop_zero]
     rw[ih l'.length (by omega) l' rfl (out++pre++[34]) (by simp only[List.length_append,List.length_singleton]; omega)]
     rw[El]
     cases qt l' with
     | none=>rfl
     | some p=>simp[iQ]
    ·have e1:([34]:ac).isPrefixOf (d :: l')=false:=by rw[f9]; simp[hd]
     rw[e1]
     simp only[Bool.not_false,if_true]
     rw[AU hd]
     simp[iQ]
  ·rw[QI hm,Se hm]
   rfl
theorem xM {l:ac} {b:Bool} {ns:List aa} (hl:l.length≤900):i8 (ba (34 :: l)) b ns=iQ [] (ba (34 :: l)) b ns (qt l):=by
 rw[Bg,show(1:Int)=((1:Nat):Int) from rfl,fy (by simp)]
 exact JR l [] (by simp; omega)
noncomputable def sQ (acc s:ac) (b:Bool) (ns:List aa):Option (ac×ac)→Option ((Int×Unit)×(kb×Unit))
 | none=>some ((0,()),((ba s,bE s [],true,ns,()),()))
 | some p=>b7 (nC (2,0,ba (acc++p.1),())) (ba s) (bE s p.2) b ns
theorem Nd {s:ac} {b:Bool} {ns:List aa} (hs:s.length≤900) : ∀(l acc:ac),l <:+ s→acc.length+l.length≤1000→jN (ba acc) (ba s) (bE s l) b ns=sQ acc s b ns (qt l):=by
 intro l
 induction hn:l.length using Nat.strongRecOn generalizing l with
 | ind n ih =>
  intro acc h ha
  subst hn
  rw[Cs]
  cases l with
  | nil =>
   rw[aE (by rw[aq]; unfold bE; simp)]
   rfl
  | cons c l =>
   obtain⟨pre,h1,h2⟩:=nd h
   have hl:pre.length+l.length+1=s.length:=by rw[h1]; simp; omega
   rw[List.length_cons] at ha
   have h':l <:+ s:=ae ⟨[c],rfl⟩ h
   have e1:(pre.length:Int)+1=bE s l:=by
    unfold bE
    omega
   rw[h2,aI (by rw[aq]; omega),jY h1,wr (by omega) (by omega)]
   by_cases hc:c=34
   ·subst hc
    have e34:(((34:UInt8).toNat:Int) != 34)=false:=rfl
    rw[e34,e1]
    simp only[Bool.false_eq_true,if_false,gl]
    cases l with
    | nil =>
     rw[Ek,aI (by rw[aq]; unfold bE; simp)]
     simp[sQ]
    | cons d l' =>
     obtain⟨Cy,k1,k2⟩:=nd h'
     have hl2:Cy.length+l'.length+1=s.length:=by rw[k1]; simp; omega
     rw[List.length_cons] at ha
     have h'':l' <:+ s:=ae ⟨[d],rfl⟩ h'
     have e2:(Cy.length:Int)+1=bE s l':=by
      unfold bE
      omega
     rw[k2,aE (by rw[aq]; omega),jY k1]
     by_cases hd:d=34
     ·subst hd
      rw[e34,El]
      simp only[Bool.false_eq_true,if_false]
      rw[show(⟨#[34]⟩:ByteArray)=ba [34] from rfl,bm (by simp only[List.length_singleton]; omega),wr (by omega) (by omega),e2,ih l'.length (by simp only[List.length_cons]; omega) l' rfl (acc++[34]) h'' (by simp only[List.length_append,List.length_singleton]; omega)]
      cases qt l' with
      | none=>rfl
      | some p=>simp[sQ]
     ·have hd':((d.toNat:Int) != 34)=true:=by
       simp only[bne_iff_ne,ne_eq]
       intro e
       apply hd
       apply UInt8.toNat_inj.1
       show d.toNat=34
       omega
      rw[hd',AU hd]
      simp only[if_true]
      rw[←k2]
      simp[sQ]
   ·have hc':((c.toNat:Int) != 34)=true:=by
     simp only[bne_iff_ne,ne_eq]
     intro e
     apply hc
     apply UInt8.toNat_inj.1
     show c.toNat=34
     omega
    rw[hc']
    simp only[if_true]
    rw[show(pre.length:Int)+1=((pre.length+1:Nat):Int) by omega,wA (by omega) (by omega)]
    have e3:(s.take (pre.length+1)).drop pre.length=[c]:=by
     rw[h1,List.take_append,List.drop_append]
     simp
    rw[e3,bm (by simp only[List.length_singleton]; omega),show((pre.length+1:Nat):Int)=bE s l by omega,ih l.length (by simp) l rfl (acc++[c]) h' (by simp only[List.length_append,List.length_singleton]; omega)]
    rw[xL hc]
    cases qt l with
    | none=>rfl
    | some p=>simp[sQ]
theorem QJ {s l:ac} {b:Bool} {ns:List aa} (hs:s.length≤900) (h:l <:+ s):xk (ba s) (bE s l) b ns=sQ [] s b ns (qt l):=by
 rw[Hu]
 have:=aB h
 exact Nd hs l [] h (by simp; omega)
def di (n:Int):ac:=(lb (c8 n)).drop 1
abbrev o8:List Int:=[1,2,3,4,5]
def ga (l:ac) (n:Int):Bool:=(di n).isPrefixOf l
theorem O4 {pre ys:List Int} {k:Int} (h:o8=pre++k :: ys):k=(pre.length:Int)+1∧1≤k∧k≤5∧c8 k=ba (35 :: di k)∧(di k).length≤10:=by
 have h1:o8[pre.length]? = some k:=by rw[h]; simp
 have hl:pre.length < 5:=by
  have:(o8).length=5:=rfl
  have h2:=congrArg List.length h
  simp at h2
  omega
 have : ∀ i:Fin 5,∀ k,o8[i.val]? = some k→k=(i.val:Int)+1:=by
  intro i k h
  have : ∀ i:Fin 5,o8[i.val]? = some ((i.val:Int)+1):=by decide
  rw[this i] at h
  exact(Option.some.inj h).symm
 have e:=this ⟨pre.length,hl⟩ k h1
 simp only at e
 have f : ∀ i:Fin 5,c8 ((i.val:Int)+1)=ba (35 :: di ((i.val:Int)+1))∧(di ((i.val:Int)+1)).length≤10:=by decide +kernel
 have:=f ⟨pre.length,hl⟩
 simp only at this
 rw[←e] at this
 exact⟨e,by omega,by omega,this.1,this.2⟩
theorem GS {deep:Int} {l:ac} {b:Bool} {ns:List aa} (hl:l.length≤900) : ∀(ys pre:List Int),o8=pre++ys→dD deep ((pre.length:Int)+1) (ba (35 :: l)) b ns=match ys.find? (ga l) with
  | some n=>bD (vE n) (ba (l.drop (di n).length)) b ns
  | none=>dD deep 6 (ba (35 :: l)) b ns
 | [],pre,h=>by
  have:pre.length=5:=by
   rw[List.append_nil] at h
   rw[←h]
   rfl
  rw[this]
  rfl
 | k :: ys,pre,h=>by
  obtain⟨e1,e2,e3,e4,e5⟩:=O4 h
  rw[←e1,qQ,aI e3,rf (by omega) e3]
  simp only[Option.bind_some]
  rw[e4,qV _ _ (by rw[List.length_cons]; omega)]
  simp only[Option.bind_some,List.find?_cons]
  have e6:(35 :: di k:ac).isPrefixOf (35 :: l)=ga l k:=by simp[ga]
  rw[e6]
  cases hp:ga l k with
  | true =>
   simp only[if_true,uA,Option.bind_some,AV,List.length_cons,List.drop_succ_cons]
  | false =>
   simp only[Bool.false_eq_true,if_false]
   rw[wr (by omega) (by omega)]
   have:=GS (deep:=deep) (b:=b) (ns:=ns) hl ys (pre++[k]) (aZ h)
   rw[List.length_append,List.length_singleton] at this
   rw[show k+1=((pre.length+1:Nat):Int)+1 by omega]
   exact this
theorem GT {s l:ac} {b:Bool} {ns:List aa} (hs:s.length≤900) (hl:l <:+ s) : ∀(ys pre:List Int),o8=pre++ys→ii ((pre.length:Int)+1) (ba s) (bE s l) b ns=match ys.find? (ga l) with
  | some n=>b7 (nC (vE n)) (ba s) (bE s (l.drop (di n).length)) b ns
  | none=>some ((0,()),((ba s,bE s l,true,ns,()),()))
 | [],pre,h=>by
  have:pre.length=5:=by
   rw[List.append_nil] at h
   rw[←h]
   rfl
  rw[this,tm,aE (by decide)]
  rfl
 | k :: ys,pre,h=>by
  obtain⟨e1,e2,e3,e4,e5⟩:=O4 h
  obtain⟨q,h1,h2⟩:=nd hl
  have hq:q.length+l.length=s.length:=by rw[h1]; simp
  rw[←e1,tm,aI e3,xF (by omega) e3]
  simp only[Option.bind_some]
  rw[e4,show(1:Int)=((1:Nat):Int) from rfl,fy (by simp)]
  simp only[List.drop_succ_cons,List.drop_zero,aq,List.find?_cons]
  have ih:=GT (b:=b) (ns:=ns) hs hl ys (pre++[k]) (aZ h)
  rw[List.length_append,List.length_singleton,show((pre.length+1:Nat):Int)+1=k+1 by omega] at ih
  have hw:IntKind.i64.wrap (k+((1:Nat):Int))=k+1:=wr (by omega) (by omega)
  rw[hw,h2,wr (by omega) (by omega)]
  by_cases hm:(di k).length≤l.length
  ·rw[aI (by omega),show(q.length:Int)+((di k).length:Int)=((q.length+(di k).length:Nat):Int) by omega,wA (by omega) (by omega),cT]
   have e:(s.take (q.length+(di k).length)).drop q.length=l.take (di k).length:=by
    rw[h1,List.take_append,List.drop_append]
    simp
   have e7:decide (l.take (di k).length=di k)=ga l k:=by
    unfold ga
    rw[Bool.eq_iff_iff,decide_eq_true_eq,List.isPrefixOf_iff_prefix,List.prefix_iff_eq_take]
    exact eq_comm
   rw[e,e7]
   cases hp:ga l k with
   | true =>
    simp only[if_true,BQ,Option.bind_some,gl]
    congr 1
    unfold bE
    rw[List.length_drop]
    omega
   | false =>
    simp only[Bool.false_eq_true,if_false]
    rw[←h2]
    exact ih
  ·rw[aE (by omega)]
   have hp:ga l k=false:=by
    rw[Bool.eq_false_iff]
    intro hp
    exact hm (AR hp)
   rw[hp,←h2]
   exact ih
def dv (k:Int):ac:=([[],[83,85,77],[77,73,78],[77,65,88],[67,79,85,78,84],[73,70],[65,78,68],[79,82],[78,79,84],[65,66,83],[76,69,78]]:List ac).getD k.toNat []
abbrev ln:List Int:=[1,2,3,4,5,6,7,8,9,10]
theorem O5 (k:Fin 11):List.getD ([(⟨#[]⟩:ByteArray),(⟨#[83,85,77]⟩:ByteArray),(⟨#[77,73,78]⟩:ByteArray),(⟨#[77,65,88]⟩:ByteArray),(⟨#[67,79,85,78,84]⟩:ByteArray),(⟨#[73,70]⟩:ByteArray),(⟨#[65,78,68]⟩:ByteArray),(⟨#[79,82]⟩:ByteArray),(⟨#[78,79,84]⟩:ByteArray),(⟨#[65,66,83]⟩:ByteArray),(⟨#[76,69,78]⟩:ByteArray)]:(List ByteArray)) k.val (⟨#[]⟩:ByteArray)=ba (dv (k.val:Int)):=by
 revert k
 decide +kernel
theorem JS {k:Int} (h0:0≤k) (h1:k≤10):H2 k=some ((ba (dv k),()),()):=by
 rw[Qx,jg h0 (by show k < 11; omega)]
 have h:=O5 ⟨k.toNat,by omega⟩
 simp only[Int.toNat_of_nonneg h0] at h
 rw[h]
theorem Em {k:Int} (h0:0≤k) (h1:k≤10):AF k=some ((ba (dv k),()),()):=by
 rw[MP,jg h0 (by show k < 11; omega)]
 have h:=O5 ⟨k.toNat,by omega⟩
 simp only[Int.toNat_of_nonneg h0] at h
 rw[h]
theorem O6 {pre ys:List Int} {k:Int} (h:ln=pre++k :: ys):k=(pre.length:Int)+1∧1≤k∧k≤10:=by
 have h1:ln[pre.length]? = some k:=by rw[h]; simp
 have hl:pre.length < 10:=by
  have h2:=congrArg List.length h
  simp at h2
  omega
 have : ∀ i:Fin 10,ln[i.val]? = some ((i.val:Int)+1):=by decide
 rw[this ⟨pre.length,hl⟩] at h1
 have e:=(Option.some.inj h1).symm
 simp only at e
 exact⟨e,by omega,by omega⟩
theorem JT {deep:Int} {w l:ac} {b:Bool} {ns:List aa} : ∀(ys pre:List Int),ln=pre++ys→dL deep (ba w) ((pre.length:Int)+1) (ba l) b ns=match ys.find? (fun k=>decide (dv k=w)) with
  | some k=>fL k deep (ba l) b ns
  | none=>some ((-1,()),((ba l,ns,true,()),()))
 | [],pre,h=>by
  have:pre.length=10:=by
   rw[List.append_nil] at h
   rw[←h]
   rfl
  rw[this,pk,aE (by decide)]
  rfl
 | k :: ys,pre,h=>by
  obtain⟨e1,e2,e3⟩:=O6 h
  rw[←e1,pk,aI e3,Em (by omega) e3]
  simp only[Option.bind_some,cT,List.find?_cons,AV]
  by_cases hp:dv k=w
  ·rw[aI hp.symm]
   simp[hp]
  ·rw[aE (Ne.symm hp),wr (by omega) (by omega)]
   have:=JT (deep:=deep) (w:=w) (l:=l) (b:=b) (ns:=ns) ys (pre++[k]) (aZ h)
   rw[List.length_append,List.length_singleton,show((pre.length+1:Nat):Int)+1=k+1 by omega] at this
   rw[this]
   simp[hp]
noncomputable def pW (w s:ac) (a:Int) (b:Bool) (ns:List aa):Option ((Int×Unit)×(kb×Unit)) :=
 if(br w).2=true∧w≠[] then b7 (nC (br w).1) (ba s) a b ns
 else if(cu w).2=true then b7 (2,0,(0,0,(⟨#[]⟩:ByteArray),()),(cu w).1,((0,0,()),false,false,()),([]:(List Int)),()) (ba s) a b ns
 else some ((0,()),((ba s,a,true,ns,()),()))
theorem Nf {w s:ac} {a:Int} {b:Bool} {ns:List aa} (hw:w.length≤1000):fo (ba w) 11 (ba s) a b ns=pW w s a b ns:=by
 rw[tn,aE (by decide),rh (by omega),rg (by omega)]
 simp only[Option.bind_some,gl]
 have e0:(ByteArray.toList (ba w) == ByteArray.toList (⟨#[]⟩:ByteArray))=decide (w=[]):=cT (b:=[])
 rw[e0]
 unfold pW
 cases (br w).2 <;> by_cases hw0:w=[] <;> cases (cu w).2 <;> simp[hw0]
theorem JU {w s:ac} {ns:List aa} (hw:w.length≤1000) (hs:s.length≤900) : ∀(ys pre:List Int) (l:ac),ln=pre++ys→l <:+ s → ∃ l',(l'=l∨l'=bl l)∧fo (ba w) ((pre.length:Int)+1) (ba s) (bE s l) false ns=match ys.find? (fun k=>decide (dv k=w) && ([40]:ac).isPrefixOf (bl l)) with
  | some k=>xm k (ba s) (bE s ((bl l).drop 1)) false ns
  | none=>pW w s (bE s l') false ns
 | [],pre,l,h,hl=>by
  have:pre.length=10:=by
   rw[List.append_nil] at h
   rw[←h]
   rfl
  refine⟨l,.inl rfl,?_⟩
  rw[this]
  exact Nf hw
 | k :: ys,pre,l,h,hl=>by
  obtain⟨e1,e2,e3⟩:=O6 h
  have ih:=fun l' (hl':l' <:+ s)=>JU (ns:=ns) hw hs ys (pre++[k]) l' (aZ h) hl'
  rw[List.length_append,List.length_singleton,show((pre.length+1:Nat):Int)+1=k+1 by omega] at ih
  rw[←e1,tn,aI e3,JS (by omega) e3]
  simp only[Option.bind_some,cT,List.find?_cons,gl]
  by_cases hp:dv k=w
  ·rw[aI hp,show(⟨#[40]⟩:ByteArray)=ba [40] from rfl,g7 (by omega) (by decide) hl]
   simp only[Option.bind_some,Bool.not_false,Bool.true_and,hp,decide_true]
   cases hq:([40]:ac).isPrefixOf (bl l) with
   | true=>exact⟨l,.inl rfl,rfl⟩
   | false =>
    simp only[Bool.false_eq_true,if_false]
    rw[wr (by omega) (by omega)]
    obtain⟨l',h1,h2⟩:=ih (bl l) (ae (ap l) hl)
    rw[dq] at h1 h2
    refine⟨l',.inr (by simpa using h1),?_⟩
    rw[h2,hq]
  ·rw[aE hp,wr (by omega) (by omega)]
   obtain⟨l',h1,h2⟩:=ih l hl
   refine⟨l',h1,?_⟩
   rw[h2]
   simp[hp]
end Go.Proofs.YtddiiceaindlhaaGreatDoor.Abs
set_option linter.unusedVariables false
set_option linter.unusedSimpArgs false
set_option linter.unusedSectionVars false
namespace Go.Proofs.YtddiiceaindlhaaGreatDoor.Abs
open Go
theorem lp (p:UInt8→Bool) (l:ac):(l.takeWhile p).length≤l.length:=(List.takeWhile_prefix p).length_le
abbrev nP (p:aA):aa:=(2,0,(0,0,(⟨#[]⟩:ByteArray),()),p,((0,0,()),false,false,()),([]:(List Int)),())
abbrev nA (p q:aA):aa:=(3,0,(0,0,(⟨#[]⟩:ByteArray),()),p,q,([]:(List Int)),())
noncomputable def eK (deep:Int) (w r:ac) (b:Bool) (ns:List aa):Option ((Int×Unit)×(pE×Unit)) :=
 if(br w).2=true∧((br w).1.1=1∨(br w).1.1=3) then bD (br w).1 (ba r) b ns
 else if(cu w).2=true then ay (nP (cu w).1) (ba r) b ns
 else match ln.find? (fun k=>decide (dv k=w)) with
  | some k=>fL k deep (ba r) b ns
  | none=>some ((-1,()),((ba r,ns,true,()),()))
theorem fQ {F:Option ((Int×Unit)×(pE×Unit))}:(F.bind fun z3=>(some ((z3.1.1,()),(z3.2.1,()))))=F:=AV
theorem O7 {deep:Int} {w l:ac} {b:Bool} {ns:List aa}:dL deep (ba w) 1 (ba l) b ns=match ln.find? (fun k=>decide (dv k=w)) with
  | some k=>fL k deep (ba l) b ns
  | none=>some ((-1,()),((ba l,ns,true,()),())):=JT ln [] rfl
theorem TZ {deep:Int} {l:ac} {b:Bool} {ns:List aa} (hl:l.length≤900):dD deep 6 (ba l) b ns=eK deep ((bl l).takeWhile aF) ((bl l).dropWhile aF) b ns:=by
 have h1:=aB (ap l)
 have h2:((bl l).takeWhile aF).length≤(bl l).length:=lp aF (bl l)
 rw[qQ,aE (by decide),xJ (by omega)]
 simp only[Option.bind_some]
 rw[ri (by omega),mW (by omega)]
 simp only[Option.bind_some,fQ,O7]
 unfold eK
 cases (br ((bl l).takeWhile aF)).2 with
 | false=>simp
 | true =>
  by_cases k1:(br ((bl l).takeWhile aF)).1.1=1
  ·simp[k1]
  ·by_cases k3:(br ((bl l).takeWhile aF)).1.1=3
   ·simp[k3]
   ·simp[k1,k3]
theorem pX {deep:Int} {l:ac} {b:Bool} {ns:List aa} (hl:l.length≤900):fd deep (ba l) b ns =
  if(bl l).head? = some 34 then i8 (ba (bl l)) b ns
  else if(bl l).head? = some 35 then dD deep 1 (ba (bl l)) b ns
  else if(bl l).head? = some 40 then((bh 1 (IntKind.i64.wrap (deep+1)) (ba ((bl l).drop 1)) b ns).bind fun z6=>(if z6.2.1.2.2.1=true then(some ((z6.1.1,()),((z6.2.1.1,z6.2.1.2.1,true,()),()))) else((aY (⟨#[41]⟩:ByteArray) z6.2.1.1 z6.2.1.2.2.1 z6.2.1.2.1).bind fun z7=>(some ((z6.1.1,()),((z7.2.1.1,z7.2.1.2.1,(!z7.1.1),()),()))))))
  else eK deep ((bl l).takeWhile aF) ((bl l).dropWhile aF) b ns:=by
 have h1:=aB (ap l)
 have h2:((bl l).takeWhile aF).length≤(bl l).length:=lp aF (bl l)
 rw[DV,l6]
 simp only[Option.bind_some]
 rw[show(⟨#[34]⟩:ByteArray)=ba [34] from rfl,qU _ _ (by omega),show(⟨#[35]⟩:ByteArray)=ba [35] from rfl,qU _ _ (by omega),show(⟨#[40]⟩:ByteArray)=ba [40] from rfl,cC (by omega)]
 simp only[Option.bind_some,fQ,Cx,dq,gv (c:=40) (.inr (.inl rfl)),decide_eq_true_eq,List.length_singleton]
 by_cases c1:(bl l).head? = some 34
 ·rw[if_pos c1,if_pos c1]
 ·rw[if_neg c1,if_neg c1]
  by_cases c2:(bl l).head? = some 35
  ·rw[if_pos c2,if_pos c2]
  ·rw[if_neg c2,if_neg c2]
   by_cases c3:(bl l).head? = some 40
   ·rw[if_pos c3,if_pos c3,if_pos c3]
   ·rw[if_neg c3,if_neg c3,if_neg c3,xJ (by omega),dq]
    simp only[Option.bind_some]
    rw[ri (by omega),mW (by omega)]
    simp only[Option.bind_some,fQ,O7]
    unfold eK
    cases (br ((bl l).takeWhile aF)).2 with
    | false=>simp
    | true =>
     by_cases k1:(br ((bl l).takeWhile aF)).1.1=1
     ·simp[k1]
     ·by_cases k3:(br ((bl l).takeWhile aF)).1.1=3
      ·simp[k3]
      ·simp[k1,k3]
def yx (m:ac):Bool:=(cu (m.takeWhile aF)).2 && decide ((bl (m.dropWhile aF)).head? = some 58)
def iL (m:ac):ac:=bl ((bl (m.dropWhile aF)).drop 1)
theorem CE {l:ac} {b:Bool} {ns:List aa} (hl:l.length≤900):jz (ba l) b ns =
  if yx (bl l)=true then some ((nA (cu ((bl l).takeWhile aF)).1 (cu ((iL (bl l)).takeWhile aF)).1,true,()),((ba ((iL (bl l)).dropWhile aF),ns,(b || !(cu ((iL (bl l)).takeWhile aF)).2),()),()))
  else some (((0,0,(0,0,(⟨#[]⟩:ByteArray),()),((0,0,()),false,false,()),((0,0,()),false,false,()),([]:(List Int)),()),false,()),((ba l,ns,b,()),())):=by
 have h1:=aB (ap l)
 have h2:((bl l).takeWhile aF).length≤(bl l).length:=lp aF (bl l)
 have h3:=GM aF (bl l)
 have h4:=aB (ap ((bl l).dropWhile aF))
 have h5:((bl ((bl l).dropWhile aF)).drop 1).length≤(bl ((bl l).dropWhile aF)).length:=aB (fC 1 _)
 have h6:=aB (ap ((bl ((bl l).dropWhile aF)).drop 1))
 have h7:((iL (bl l)).takeWhile aF).length≤(iL (bl l)).length:=lp aF _
 have h8:(iL (bl l)).length≤((bl ((bl l).dropWhile aF)).drop 1).length:=h6
 rw[yE,xJ (by omega)]
 simp only[Option.bind_some]
 rw[mW (by omega)]
 simp only[Option.bind_some]
 unfold yx
 cases hp:(cu ((bl l).takeWhile aF)).2 with
 | false=>simp
 | true =>
  simp only[if_true,Bool.true_and]
  rw[show(⟨#[58]⟩:ByteArray)=ba [58] from rfl,cC (by omega)]
  simp only[Option.bind_some,gv (c:=58) (.inr (.inr (.inr (.inr rfl)))),List.length_singleton]
  by_cases hc:(bl ((bl l).dropWhile aF)).head? = some 58
  ·simp only[hc,decide_true,Bool.not_true,Bool.false_eq_true,if_false,if_true]
   rw[xJ (by omega)]
   simp only[Option.bind_some]
   rw[show bl ((bl ((bl l).dropWhile aF)).drop 1)=iL (bl l) from rfl,mW (by omega)]
   simp only[Option.bind_some]
   cases b <;> simp
  ·simp only[hc,decide_false,Bool.not_false,if_true,Bool.false_eq_true,if_false]
end Go.Proofs.YtddiiceaindlhaaGreatDoor.Abs
