/- Plain laws: texts as rows of bytes; what stands ahead; decimals. -/
import Derived.Test.YtddiiceaindlhaaGreatDoorZP1
import Derived.Lib.IndexBytes
set_option linter.unusedVariables false
set_option linter.unusedSimpArgs false
set_option linter.unusedSectionVars false
namespace Go.Proofs.YtddiiceaindlhaaGreatDoor.Abs
open Go
abbrev ae:=List UInt8
abbrev lb (s:ByteArray):ae:=s.data.toList
abbrev ba (l:ae):ByteArray:=⟨l.toArray⟩
theorem dk (l:ae):lb (ba l)=l:=by simp
theorem fX (s:ByteArray):ba (lb s)=s:=by cases s; simp
theorem aq (l:ae):(ba l).size=l.length:=by
 show(ba l).data.size=_
 simp
theorem pU (s:ByteArray):(lb s).length=s.size:=by
 rw[Array.length_toList]
 rfl
theorem q7 {a b:ae} (h:ba a=ba b):a=b:=by
 rw[←dk a,h,dk]
theorem TZ {a b:ae}:(ba a=ba b)=(a=b):=propext ⟨q7,fun h=>by rw[h]⟩
theorem Nw (l:ae) (i j:Nat):(ba l).extract i j=ba ((l.take j).drop i):=by
 apply wV
 simp[ByteArray.data_extract,List.extract_eq_take_drop,List.drop_take]
theorem mz (a b:ae):ba a++ba b=ba (a++b):=by
 apply wV
 simp
theorem cN {a b:ae}:(ByteArray.toList (ba a) == ByteArray.toList (ba b))=decide (a=b):=by
 rw[jE,Bool.eq_iff_iff,decide_eq_true_eq,decide_eq_true_eq,TZ]
theorem Pn (l:ae):nD (ba l)=l.map fun b=>(b.toNat:Int):=by simp[nD]
theorem jQ {β:Type} {l pre ys:ae} {y:UInt8} {f:Int→Option β} (h:l=pre++y :: ys):d9 (ba l) (pre.length:Int) f=f (y.toNat:Int):=by
 have:=zX (β:=β) (s:=ba l) (pre:=pre.map fun b=>(b.toNat:Int)) (ys:=ys.map fun b=>(b.toNat:Int)) (y:=(y.toNat:Int)) (f:=f) (by rw[Pn,h]; simp)
 rw[List.length_map] at this
 exact this
theorem o6 {β:Type} {y:UInt8} {ys:ae} {f:Int→Option β}:d9 (ba (y :: ys)) 0 f=f (y.toNat:Int):=jQ (pre:=[]) rfl
theorem EF {β:Type} {l:ae} {n:Nat} {f:ByteArray→Option β} (h:n≤l.length):BU (ba l) (n:Int) f=f (ba (l.take n)):=by
 rw[Tb (nn _) (by rw[aq]; omega),Nw]
 simp
theorem fq {β:Type} {l:ae} {n:Nat} {f:ByteArray→Option β} (h:n≤l.length):ii (ba l) (n:Int) f=f (ba (l.drop n)):=by
 rw[Tc (nn _) (by rw[aq]; omega),Nw,aq]
 simp
theorem wW {β:Type} {l:ae} {i j:Nat} {f:ByteArray→Option β} (h:i≤j) (hj:j≤l.length):ui (ba l) (i:Int) (j:Int) f=f (ba ((l.take j).drop i)):=by
 rw[Td (nn _) (by omega) (by rw[aq]; omega),Nw]
 simp
theorem bk {β:Type} {a b:ae} {f:ByteArray→Option β} (h:a.length+b.length≤9223372036854775807):cats (ba a) (ba b) f=f (ba (a++b)):=by
 rw[j0 (by rw[aq,aq]; exact h),mz]
theorem vy (s p:ae) (hs:s.length≤9223372036854775807):eI (ba s) (ba p)=some ((p.isPrefixOf s,()),()):=by
 rw[tu,aq,aq]
 by_cases h:p.length≤s.length
 ·rw[aD (by omega),EF h,cN]
  congr 3
  rw[Bool.eq_iff_iff,decide_eq_true_eq,List.isPrefixOf_iff_prefix,List.prefix_iff_eq_take]
  exact eq_comm
 ·rw[av (by omega)]
  congr 3
  symm
  rw[Bool.eq_false_iff]
  intro hp
  exact h (List.isPrefixOf_iff_prefix.1 hp).length_le
theorem q8 (s p:ae) (hs:s.length≤9223372036854775807):dU (ba s) (ba p)=some ((p.isPrefixOf s,()),()):=by
 rw[xW,vy s p hs]
 rfl
theorem q9 (s p:ae) (hs:s.length≤9223372036854775807):ch (ba s) (ba p)=some ((ba (if p.isPrefixOf s=true then s.drop p.length else s),p.isPrefixOf s,()),()):=by
 rw[xV,tv,vy s p hs]
 simp only[Option.bind_some]
 cases hp:p.isPrefixOf s with
 | false=>rfl
 | true =>
  have:=(List.isPrefixOf_iff_prefix.1 hp).length_le
  simp only[Bool.not_true,Bool.false_eq_true,if_false,if_true,aq]
  rw[fq this]
  rfl
theorem vz (s c:ae) (hc:sS (ba c)=true):gR (ba s) (ba c)=some ((ba (s.dropWhile (c.contains ·)),()),()):=by
 rw[yY]
 show(if sS (ba c)=true then some (((⟨(Lib.trimLeftS (lb (ba s)) (lb (ba c))).toArray⟩:ByteArray),()),()) else none)=_
 rw[if_pos hc,dk,dk]
 rfl
theorem Ae {α:Type} (p:α→Bool) (l:List α):l.take (l.length - (l.dropWhile p).length)=l.takeWhile p∧l.drop (l.length - (l.dropWhile p).length)=l.dropWhile p∧(l.dropWhile p).length≤l.length:=by
 have h:=List.takeWhile_append_dropWhile (p:=p) (l:=l)
 have hl:(l.takeWhile p).length+(l.dropWhile p).length=l.length:=by rw[←List.length_append,h]
 have e:l.length - (l.dropWhile p).length=(l.takeWhile p).length:=by omega
 refine⟨?_,?_,by omega⟩
 ·rw[e]
  have:=List.take_left' (l₁:=l.takeWhile p) (l₂:=l.dropWhile p) rfl
  rw[h] at this
  exact this
 ·rw[e]
  have:=List.drop_left' (l₁:=l.takeWhile p) (l₂:=l.dropWhile p) rfl
  rw[h] at this
  exact this
theorem fY (c:UInt8) (l:ae) (a:UInt8):([a]:ae).isPrefixOf (c :: l)=decide (c=a):=by
 show(a == c && ([]:ae).isPrefixOf l)=_
 rw[show([]:ae).isPrefixOf l=true by cases l <;> rfl,Bool.and_true,Bool.eq_iff_iff,beq_iff_eq,decide_eq_true_eq]
 exact eq_comm
theorem CX (c:UInt8) (t:ae):([c]:ae).isPrefixOf t=decide (t.head? = some c):=by
 cases t with
 | nil=>rfl
 | cons y t=>rw[fY]; simp
theorem CY (y:UInt8) (t:ae) (a c:UInt8):([a,c]:ae).isPrefixOf (y :: t)=(decide (y=a) && decide (t.head? = some c)):=by
 show(a == y && ([c]:ae).isPrefixOf t)=_
 rw[CX]
 congr 1
 rw[Bool.eq_iff_iff,beq_iff_eq,decide_eq_true_eq]
 exact eq_comm
theorem CZ (y c:UInt8) {n:Int} (hn:(c.toNat:Int)=n):((y.toNat:Int) == n)=decide (y=c):=by
 rw[Bool.eq_iff_iff,beq_iff_eq,decide_eq_true_eq,←hn]
 constructor
 ·intro e
  apply UInt8.toNat_inj.1
  omega
 ·intro e
  rw[e]
theorem o7 {p:UInt8→Prop} [DecidablePred p] (h : ∀ n:Fin 256,p (UInt8.ofNat n.val)) (c:UInt8):p c:=by
 have:=h ⟨c.toNat,c.toNat_lt⟩
 simpa using this
def en (c:UInt8):Bool:=decide (65≤c.toNat) && decide (c.toNat≤90)
def cZ (c:UInt8):Bool:=decide (48≤c.toNat) && decide (c.toNat≤57)
def bn (a:Nat) (l:ae):Nat:=l.foldl (fun a c=>a*10+(c.toNat - 48)) a
theorem Af (a:Nat) (l:ae) (c:UInt8):bn a (l++[c])=bn a l*10+(c.toNat - 48):=by simp[bn]
theorem EG {u:Nat} (h:u < 10):Lib.decDigits u=[UInt8.ofNat (48+u)]:=Lib.decDigits_one h
theorem JX {u:Nat} (h : ¬u < 10):Lib.decDigits u=Lib.decDigits (u / 10)++[UInt8.ofNat (48+u % 10)]:=by
 rw[Lib.decDigits,dif_neg h]
theorem Nx {x:Nat} (h:x < 10):(UInt8.ofNat (48+x)).toNat=48+x:=by
 rw[UInt8.toNat_ofNat']
 omega
theorem Po {m x:ae} (h:m≠[]):(m++x).head? = m.head? := by
 cases m with
 | nil=>exact absurd rfl h
 | cons a m=>rfl
def iz (l:ae):Bool:=l.all cZ && decide (1≤l.length) && (decide (l.length=1) || !decide (l.head? = some 48))
theorem JY : ∀(n u:Nat),u≤n→bn 0 (Lib.decDigits u)=u∧iz (Lib.decDigits u)=true∧(10≤u→2≤(Lib.decDigits u).length)∧(1≤u→(Lib.decDigits u).head? ≠ some 48)
 | n,u,hn=>by
  by_cases h:u < 10
  ·rw[EG h]
   have e:=Nx h
   refine⟨by simp[bn]; omega,?_,fun h2=>by omega,fun h1 h2 => ?_⟩
   ·simp only[iz,cZ,List.all_cons,List.all_nil,e]
    simp
    omega
   ·simp only[List.head?_cons,Option.some.injEq] at h2
    rw[h2] at e
    have:(48:UInt8).toNat=48:=rfl
    omega
  ·cases n with
   | zero=>omega
   | succ n =>
    obtain⟨h1,h2,h3,h4⟩:=JY n (u / 10) (by omega)
    rw[JX h,Af,h1,Nx (Nat.mod_lt _ (by decide))]
    have h4:=h4 (by omega)
    simp only[iz,Bool.and_eq_true,decide_eq_true_eq] at h2
    obtain⟨⟨k1,k2⟩,k3⟩:=h2
    have hne:Lib.decDigits (u / 10)≠[]:=by
     intro e
     rw[e] at k2
     simp at k2
    have hh:(Lib.decDigits (u / 10)++[UInt8.ofNat (48+u % 10)]).head? ≠ some 48:=by
     rw[Po hne]
     exact h4
    refine⟨by omega,?_,fun _=>by rw[List.length_append,List.length_singleton]; omega,fun _=>hh⟩
    simp only[iz,List.all_append,k1,List.all_cons,List.all_nil,cZ,Nx (Nat.mod_lt u (show 0 < 10 by decide)),Bool.and_eq_true,Bool.or_eq_true,decide_eq_true_eq]
    refine⟨⟨by simp; omega,by simp⟩,.inr (by simpa using hh)⟩
theorem pV (u:Nat):bn 0 (Lib.decDigits u)=u:=(JY u u (Nat.le_refl _)).1
theorem pW (u:Nat):iz (Lib.decDigits u)=true:=(JY u u (Nat.le_refl _)).2.1
theorem L7 {c:UInt8} (h:cZ c=true):UInt8.ofNat (48+(c.toNat - 48))=c:=by
 simp only[cZ,Bool.and_eq_true,decide_eq_true_eq] at h
 have:48+(c.toNat - 48)=c.toNat:=by omega
 rw[this]
 simp
theorem L8 : ∀(l:ae),iz l=true→Lib.decDigits (bn 0 l)=l∧(l.head? ≠ some 48→1≤bn 0 l):=by
 intro l
 induction hn:l.length using Nat.strongRecOn generalizing l with
 | ind n ih =>
  intro h
  rcases List.eq_nil_or_concat l with rfl | ⟨m,c,rfl⟩
  ·simp[iz] at h
  ·rw[List.concat_eq_append] at *
   simp only[iz,Bool.and_eq_true,Bool.or_eq_true,decide_eq_true_eq,List.all_append,List.all_cons,List.all_nil,Bool.and_true] at h
   obtain⟨⟨⟨k1,k0⟩,k2⟩,k3⟩:=h
   have kd:48≤c.toNat∧c.toNat≤57:=by simpa[cZ] using k0
   rw[Af]
   by_cases hm:m=[]
   ·subst hm
    have e:bn 0 []*10+(c.toNat - 48)=c.toNat - 48:=by simp[bn]
    rw[e,EG (by omega),L7 k0]
    refine⟨rfl,fun hh => ?_⟩
    have:c.toNat≠48:=by
     intro e
     apply hh
     simp only[List.nil_append,List.head?_cons]
     congr 1
     exact UInt8.toNat_inj.1 e
    omega
   ·have hm1:1≤m.length:=List.length_pos_iff.2 hm
    have hh:(m++[c]).head? = m.head? := Po hm
    have k4:m.head? ≠ some 48:=by
     rcases k3 with k3 | k3
     ·rw[List.length_append,List.length_singleton] at k3
      omega
     ·rw[hh] at k3
      simpa using k3
    obtain⟨i1,i2⟩:=ih m.length (by rw[←hn,List.length_append,List.length_singleton]; omega) m rfl (by
     simp only[iz,Bool.and_eq_true,Bool.or_eq_true,decide_eq_true_eq]
     exact⟨⟨k1,hm1⟩,.inr (by simpa using k4)⟩)
    have i2:=i2 k4
    refine⟨?_,fun _=>by omega⟩
    rw[JX (by omega)]
    have e1:(bn 0 m*10+(c.toNat - 48)) / 10=bn 0 m:=by omega
    have e2:(bn 0 m*10+(c.toNat - 48)) % 10=c.toNat - 48:=by omega
    rw[e1,e2,i1,L7 k0]
theorem lc (u:Nat):de (u:Int)=ba (Lib.decDigits u):=uP u
theorem Bm : ∀(l:ae) (a:Nat),l.all cZ=true→bn a l < (a+1)*10 ^ l.length
 | [],a,_=>by simp[bn]
 | c :: l,a,h=>by
  simp only[List.all_cons,Bool.and_eq_true] at h
  have kd:48≤c.toNat∧c.toNat≤57:=by simpa[cZ] using h.1
  have:=Bm l (a*10+(c.toNat - 48)) h.2
  show bn (a*10+(c.toNat - 48)) l < _
  refine Nat.lt_of_lt_of_le this ?_
  rw[List.length_cons,Nat.pow_succ]
  have:a*10+(c.toNat - 48)+1≤(a+1)*10:=by omega
  calc (a*10+(c.toNat - 48)+1)*10 ^ l.length≤((a+1)*10)*10 ^ l.length:=Nat.mul_le_mul_right _ this
   _=(a+1)*(10 ^ l.length*10):=by rw[Nat.mul_assoc,Nat.mul_comm 10]
end Go.Proofs.YtddiiceaindlhaaGreatDoor.Abs
set_option linter.unusedVariables false
set_option linter.unusedSimpArgs false
set_option linter.unusedSectionVars false
namespace Go.Proofs.YtddiiceaindlhaaGreatDoor.Abs
open Go
def fL (c:Nat):ae:=if c≤26 then [UInt8.ofNat (64+c)] else [65,UInt8.ofNat (38+c)]
theorem Pp : ∀ c:Fin 53,1≤c.val→c.val≤26→strOfNums ([(IntKind.u8.wrap (IntKind.i64.wrap ((IntKind.i64.wrap (65+(c.val:Int))) - 1)))]:List Int)=ba (fL c.val):=by decide +kernel
theorem Pq : ∀ c:Fin 53,1≤c.val → ¬c.val≤26→strOfNums ([(IntKind.u8.wrap (IntKind.i64.wrap ((IntKind.i64.wrap (65+(IntKind.i64.wrap (Int.tdiv (IntKind.i64.wrap ((c.val:Int) - 1)) 26)))) - 1))),(IntKind.u8.wrap (IntKind.i64.wrap (65+(Int.tmod (IntKind.i64.wrap ((c.val:Int) - 1)) 26))))]:List Int)=ba (fL c.val):=by decide +kernel
theorem Ps : ∀ c:Fin 53,1≤c.val→strOfNums ([(IntKind.u8.wrap (IntKind.i64.wrap (65+(Int.tmod (IntKind.i64.wrap ((c.val:Int) - 1)) 26))))]:List Int)=ba (if c.val≤26 then fL c.val else(fL c.val).drop 1):=by decide +kernel
theorem Pt : ∀ c:Fin 53,1≤c.val→IntKind.i64.wrap (Int.tdiv (IntKind.i64.wrap ((c.val:Int) - 1)) 26)=if c.val≤26 then 0 else 1:=by decide +kernel
theorem Cj {c:Nat} (h1:1≤c) (h2:c≤52):pN (c:Int)=some ((ba (fL c),()),()):=by
 rw[K9,jy]
 simp only[Option.bind_some]
 rw[show bF (c:Int) 1 52=true from bc.2 ⟨by omega,by omega⟩]
 simp only[Bool.not_true,Bool.false_eq_true,if_false]
 by_cases h:c≤26
 ·rw[aD (by omega),Pp ⟨c,by omega⟩ h1 h]
 ·rw[av (by omega),Pq ⟨c,by omega⟩ h1 h]
theorem pX (c:Nat):1≤(fL c).length∧(fL c).length≤2:=by
 unfold fL
 split <;> simp
theorem Ck {c:Nat} (h1:1≤c) (h2:c≤52):s6 (c:Int)=some ((ba (fL c),()),()):=by
 have k1:=Ps ⟨c,by omega⟩ h1
 have k2:=Pt ⟨c,by omega⟩ h1
 have kl:=pX c
 rw[KX,eA]
 simp only[Option.bind_some]
 rw[show bF (c:Int) 1 52=true from bc.2 ⟨by omega,by omega⟩]
 simp only[Bool.not_true,Bool.false_eq_true,if_false]
 simp only at k1 k2
 rw[lS,aD (by omega),k1,k2]
 by_cases h:c≤26
 ·rw[if_pos h,if_pos h,bk (by simp only[List.length_nil]; omega),lS,av (by decide),List.append_nil]
 ·rw[if_neg h,if_neg h,bk (by simp only[List.length_nil,List.length_drop]; omega),lS,aD (by decide),List.append_nil]
  have k3':strOfNums ([(IntKind.u8.wrap (IntKind.i64.wrap (65+(Int.tmod (IntKind.i64.wrap ((1:Int) - 1)) 26))))]:List Int)=ba [65]:=by decide +kernel
  have k4':IntKind.i64.wrap (Int.tdiv (IntKind.i64.wrap ((1:Int) - 1)) 26)=0:=by decide +kernel
  rw[k3',k4',bk (by simp only[List.length_cons,List.length_nil,List.length_drop]; omega),lS,av (by decide)]
  congr 3
  unfold fL
  rw[if_neg h]
  rfl
theorem C0 {P:ByteArray→Int→Option ((Int×Unit)×Unit)} {C:Int→Option ((ByteArray×Unit)×Unit)}
  (hP : ∀ x n,P x n=if decide (n≤52)=true then(C n).bind fun z1=>(if(ByteArray.toList z1.1.1 == ByteArray.toList x)=true then some ((n,()),()) else P x (IntKind.i64.wrap (n+1))) else some ((0,()),()))
  (hC : ∀ c:Nat,1≤c→c≤52→C (c:Int)=some ((ba (fL c),()),())) (w:ae) : ∀ k n:Nat,n+k=53→1≤n→P (ba w) (n:Int)=some ((((((List.range' n k).find? fun m=>decide (fL m=w)).getD 0:Nat):Int),()),())
 | 0,n,h,_=>by
  rw[hP,av (by omega)]
  rfl
 | k+1,n,h,h1=>by
  rw[hP,aD (by omega),hC n h1 (by omega)]
  simp only[Option.bind_some,cN,List.range'_succ,List.find?_cons]
  by_cases he:fL n=w
  ·simp[he]
  ·rw[if_neg (by simpa using he),wr (by omega) (by omega)]
   simp only[he,decide_false]
   exact C0 hP hC w k (n+1) (by omega) (by omega)
def jz (w:ae):Nat:=((List.range' 1 52).find? fun m=>decide (fL m=w)).getD 0
theorem Lo (w:ae):CM (ba w)=some ((((jz w:Nat):Int),()),()):=by
 rw[La]
 exact C0 (fun x n=>FU) (fun c h1 h2=>Cj h1 h2) w 52 1 rfl (Nat.le_refl _)
theorem Lp (w:ae):pL (ba w)=some ((((jz w:Nat):Int),()),()):=by
 rw[KY]
 exact C0 (fun x n=>FT) (fun c h1 h2=>Ck h1 h2) w 52 1 rfl (Nat.le_refl _)
theorem EH : ∀ m:Fin 53,1≤m.val→jz (fL m.val)=m.val:=by decide +kernel
theorem Pu {w:ae} (h:1≤jz w):jz w≤52∧fL (jz w)=w:=by
 unfold jz at h ⊢
 cases hf:(List.range' 1 52).find? fun m=>decide (fL m=w) with
 | none=>rw[hf] at h; simp at h
 | some m =>
  have h1:=List.find?_some hf
  have h2:=List.mem_of_find?_eq_some hf
  rw[List.mem_range'_1] at h2
  simp only[Option.getD_some]
  exact⟨by omega,by simpa using h1⟩
def o8 (b:Bool):ae:=if b=true then [36] else []
def rB (c r:Nat) (fc fr:Bool):ae:=o8 fc++(fL c++(o8 fr++Lib.decDigits r))
def eO (p:aB):ae:=rB p.1.1.toNat p.1.2.1.toNat p.2.1 p.2.2.1
theorem bC {r:ai}:ar r=true↔(1≤r.1∧r.1≤52)∧1≤r.2.1∧r.2.1≤99:=by
 unfold ar
 rw[Bool.and_eq_true,bc,bc]
theorem si {r:Nat} (h:r≤99):(Lib.decDigits r).length≤2:=Ex 1 r (by omega)
theorem mV (p:aB):lF p=some ((if ar p.1=true then ba (eO p) else ba [],()),()):=by
 rw[H3,nE]
 simp only[Option.bind_some]
 cases hr:ar p.1 with
 | false=>rfl
 | true =>
  simp only[Bool.not_true,Bool.false_eq_true,if_false,if_true]
  obtain⟨⟨c,r,u⟩,fc,fr,u'⟩:=p
  obtain⟨⟨h1,h2⟩,h3,h4⟩:=bC.1 hr
  simp only at h1 h2 h3 h4 ⊢
  obtain⟨c,rfl⟩ : ∃ n:Nat,c=n:=⟨c.toNat,by omega⟩
  obtain⟨r,rfl⟩ : ∃ n:Nat,r=n:=⟨r.toNat,by omega⟩
  have kc:=pX c
  have kr:=si (r:=r) (by omega)
  have e1:pN (c:Int)=some ((ba (fL c),()),()):=Cj (by omega) (by omega)
  have e2:jp (r:Int)=some ((ba (Lib.decDigits r),()),()):=by rw[vx (by omega) (by omega),lc]
  unfold eO rB
  simp only[Int.toNat_natCast]
  cases fc <;> cases fr <;> simp only[e1,e2,Option.bind_some,if_true,if_false,Bool.false_eq_true,o8]
  all_goals
   repeat rw[bk (by first | omega | (simp only[List.length_append,List.length_cons,List.length_nil]; omega))]
   simp
theorem rl (p:aB):oy p=some ((if ar p.1=true then ba (eO p) else ba [],()),()):=by
 rw[HW,gB]
 simp only[Option.bind_some]
 cases hr:ar p.1 with
 | false=>rfl
 | true =>
  simp only[Bool.not_true,Bool.false_eq_true,if_false,if_true]
  obtain⟨⟨c,r,u⟩,fc,fr,u'⟩:=p
  obtain⟨⟨h1,h2⟩,h3,h4⟩:=bC.1 hr
  simp only at h1 h2 h3 h4 ⊢
  obtain⟨c,rfl⟩ : ∃ n:Nat,c=n:=⟨c.toNat,by omega⟩
  obtain⟨r,rfl⟩ : ∃ n:Nat,r=n:=⟨r.toNat,by omega⟩
  have kc:=pX c
  have kr:=si (r:=r) (by omega)
  have e1:s6 (c:Int)=some ((ba (fL c),()),()):=Ck (by omega) (by omega)
  have e2:mm (r:Int)=some ((ba (Lib.decDigits r),()),()):=by rw[He (by omega) (by omega),lc]
  unfold eO rB
  simp only[Int.toNat_natCast]
  cases fc <;> cases fr <;> simp only[e1,e2,Option.bind_some,if_true,if_false,Bool.false_eq_true,o8]
  all_goals
   repeat rw[bk (by first | omega | (simp only[List.length_append,List.length_cons,List.length_nil]; omega))]
   simp
theorem Cl {w:ae} (hw:w.length≤18) : ∀(ys pre:ae),w=pre++ys→pre.all cZ=true→ny (ba w) (bn 0 pre:Nat) (pre.length:Int)=some ((if ys.all cZ=true then((bn 0 w:Nat):Int) else 0,ys.all cZ,()),())
 | [],pre,h,hp=>by
  rw[List.append_nil] at h
  subst h
  rw[zT,av (by rw[aq]; omega)]
  rfl
 | y :: ys,pre,h,hp=>by
  have hl:pre.length < w.length:=by rw[h]; simp
  rw[zT,aD (by rw[aq]; omega),jQ h]
  by_cases h1:y.toNat < 48
  ·have hd:cZ y=false:=by simp[cZ]; omega
   rw[aD (by omega)]
   simp[hd]
  ·rw[av (by omega),jQ h]
   by_cases h2:57 < y.toNat
   ·have hd:cZ y=false:=by simp[cZ]; omega
    rw[aD (by omega)]
    simp[hd]
   ·have hd:cZ y=true:=by simp[cZ]; omega
    rw[av (by omega),jQ h]
    have hv:=Bm pre 0 hp
    have hv2:10 ^ pre.length≤10 ^ 17:=Nat.pow_le_pow_right (by decide) (by omega)
    have hv3:bn 0 pre < 100000000000000000:=by
     rw[Nat.zero_add,Nat.one_mul] at hv
     exact Nat.lt_of_lt_of_le hv hv2
    clear hv hv2
    have e1:IntKind.u8.wrap ((y.toNat:Int) - 48)=((y.toNat - 48:Nat):Int):=by rw[Ue (by omega) (by omega)]; omega
    have w1:IntKind.i64.wrap (((bn 0 pre:Nat):Int)*10)=((bn 0 pre:Nat):Int)*10:=wr (by omega) (by omega)
    have w2:IntKind.i64.wrap ((y.toNat - 48:Nat):Int)=((y.toNat - 48:Nat):Int):=wr (by omega) (by omega)
    rw[e1,w1,w2,wr (n:=((bn 0 pre:Nat):Int)*10+((y.toNat - 48:Nat):Int)) (by omega) (by omega),wr (n:=(pre.length:Int)+1) (by omega) (by omega)]
    have e2:((bn 0 pre:Nat):Int)*10+((y.toNat - 48:Nat):Int)=((bn 0 (pre++[y]):Nat):Int):=by rw[Af]; omega
    have e3:(pre.length:Int)+1=((pre++[y]).length:Int):=by simp
    rw[e2,e3,Cl hw ys (pre++[y]) (by rw[h]; simp) (by simp[hp,hd])]
    simp[hd]
def cu (w:ae) (m:Nat):Bool:=iz w && decide (w.length≤m)
theorem Ag (w:ae) {m:Nat} (hm:m≤18):cL (ba w) (m:Int)=some ((if cu w m=true then((bn 0 w:Nat):Int) else 0,cu w m,()),()):=by
 rw[O5,aq]
 cases w with
 | nil =>
  rw[aD (by simp)]
  rfl
 | cons y ys =>
  have hlen:(y :: ys:ae).length=ys.length+1:=rfl
  rw[av (by omega)]
  by_cases h:(y :: ys:ae).length≤m
  ·have hle:decide ((y :: ys:ae).length≤m)=true:=decide_eq_true h
   rw[av (by omega),o6]
   have hl:=Cl (w:=y :: ys) (by omega) (y :: ys) [] rfl rfl
   have hl:ny (ba (y :: ys)) 0 0=_:=hl
   have h0n:decide (1≤(y :: ys:ae).length)=true:=decide_eq_true (by omega)
   by_cases h0:y=48
   ·subst h0
    rw[if_pos (by rfl)]
    by_cases h1:ys.length=0
    ·rw[av (by omega),hl]
     have h1':decide ((48 :: ys:ae).length=1)=true:=decide_eq_true (by omega)
     have e:cu (48 :: ys) m=(48 :: ys:ae).all cZ:=by
      unfold cu iz
      rw[hle,h0n,h1']
      simp
     rw[e]
    ·rw[aD (by omega)]
     have h1':decide ((48 :: ys:ae).length=1)=false:=decide_eq_false (by omega)
     have e:cu (48 :: ys) m=false:=by
      unfold cu iz
      rw[h1']
      simp
     rw[e]
     rfl
   ·have h0' : ¬((y.toNat:Int) == 48)=true:=by
     simp only[beq_iff_eq]
     intro e
     apply h0
     apply UInt8.toNat_inj.1
     show y.toNat=48
     omega
    rw[if_neg h0',hl]
    have e:cu (y :: ys) m=(y :: ys:ae).all cZ:=by
     have h2:decide ((y :: ys:ae).head? = some 48)=false:=decide_eq_false (by simpa using h0)
     unfold cu iz
     rw[hle,h0n,h2]
     simp
    rw[e]
  ·rw[aD (by omega)]
   have e:cu (y :: ys) m=false:=by
    unfold cu
    rw[decide_eq_false h]
    simp
   rw[e]
   rfl
theorem C1 {w:ae} {m:Nat} (h:cu w m=true):Lib.decDigits (bn 0 w)=w∧w.length≤m:=by
 unfold cu at h
 rw[Bool.and_eq_true,decide_eq_true_eq] at h
 exact⟨(L8 w h.1).1,h.2⟩
theorem Ah {u m:Nat} (h:(Lib.decDigits u).length≤m):cu (Lib.decDigits u) m=true:=by
 unfold cu
 rw[pW]
 simpa using h
end Go.Proofs.YtddiiceaindlhaaGreatDoor.Abs
set_option linter.unusedVariables false
set_option linter.unusedSimpArgs false
set_option linter.unusedSectionVars false
namespace Go.Proofs.YtddiiceaindlhaaGreatDoor.Abs
open Go
theorem vA {w:ae} (hw:w.length≤281474976710656):gU (ba w) 10 64=some (((b9 w).1,(b9 w).2,()),()):=by
 rw[za]
 show(if(ba w).size≤281474976710656∧(10:Int)=10∧(64:Int)=64 then some (((b9 (lb (ba w))).1,(b9 (lb (ba w))).2,()),()) else none)=_
 rw[if_pos ⟨by rw[aq]; exact hw,rfl,rfl⟩,dk]
theorem Sk : ∀ r:Fin 10,(b9 [UInt8.ofNat (48+r.val)]).1=(r.val:Int):=by decide +kernel
theorem Sl : ∀ r:Fin 100,(b9 [UInt8.ofNat (48+r.val / 10),UInt8.ofNat (48+r.val % 10)]).1=(r.val:Int):=by decide +kernel
theorem Pv {r:Nat} (h:r < 100):(b9 (Lib.decDigits r)).1=(r:Int):=by
 by_cases h1:r < 10
 ·rw[Lib.decDigits_one h1]
  exact Sk ⟨r,h1⟩
 ·rw[Lib.decDigits_two h1 h]
  exact Sl ⟨r,h⟩
theorem Tg:(fun c=>([65,66,67,68,69,70,71,72,73,74,75,76,77,78,79,80,81,82,83,84,85,86,87,88,89,90]:ae).contains c)=en:=funext fun c=>o7 (p:=fun c=>([65,66,67,68,69,70,71,72,73,74,75,76,77,78,79,80,81,82,83,84,85,86,87,88,89,90]:ae).contains c=en c) (by decide +kernel) c
def b8 (w:ae):Bool×ae:=(([36]:ae).isPrefixOf w,if([36]:ae).isPrefixOf w=true then w.drop 1 else w)
theorem Hh (w:ae):o8 (b8 w).1++(b8 w).2=w:=by
 unfold b8 o8
 cases w with
 | nil=>rfl
 | cons c l =>
  by_cases h:c=36
  ·subst h
   simp
  ·have:([36]:ae).isPrefixOf (c :: l)=false:=by rw[fY]; simp[h]
   simp[this]
theorem JZ {b:Bool} {w:ae} (h:w.head? ≠ some 36):b8 (o8 b++w)=(b,w):=by
 unfold b8 o8
 cases b with
 | true=>simp
 | false =>
  cases w with
  | nil=>rfl
  | cons c l =>
   have h':c≠36:=fun e=>h (by rw[e]; rfl)
   have:([36]:ae).isPrefixOf (c :: l)=false:=by rw[fY]; simp[h']
   simp[this]
theorem J0 (w:ae):(b8 w).2.length≤w.length:=by
 unfold b8
 split <;> simp
def o9 (w:ae):aB:=((((jz ((b8 w).2.takeWhile en):Nat):Int),(b9 (b8 ((b8 w).2.dropWhile en)).2).1,()),(b8 w).1,(b8 ((b8 w).2.dropWhile en)).1,())
theorem Hi (p:UInt8→Bool) (l:ae):(l.dropWhile p).length≤l.length:=(Ae p l).2.2
theorem Th {w:ae} (hw:w.length≤9223372036854775807):ch (ba w) (⟨#[36]⟩:ByteArray)=some ((ba (b8 w).2,(b8 w).1,()),()):=q9 w [36] hw
theorem J1 {w:ae} (hw:w.length≤281474976710656) :
  gu (ba w)=some ((if ar (o9 w).1=true∧eO (o9 w)=w then o9 w else p0,decide (ar (o9 w).1=true∧eO (o9 w)=w),()),()):=by
 have l1:=J0 w
 have l2:=Hi en (b8 w).2
 have l3:=J0 ((b8 w).2.dropWhile en)
 obtain⟨d1,d2,d3⟩:=Ae en (b8 w).2
 rw[H4,Th (by omega)]
 simp only[Option.bind_some]
 rw[vz _ _ (by decide +kernel),Tg]
 simp only[Option.bind_some,aq]
 rw[wr (by omega) (by omega),show((b8 w).2.length:Int) - (((b8 w).2.dropWhile en).length:Int)=(((b8 w).2.length - ((b8 w).2.dropWhile en).length:Nat):Int) by omega,EF (by omega),d1,Lo]
 simp only[Option.bind_some]
 rw[fq (by omega),d2,Th (by omega)]
 simp only[Option.bind_some]
 rw[vA (by omega)]
 simp only[Option.bind_some,nE,mV]
 have e:o9 w=((((jz ((b8 w).2.takeWhile en):Nat):Int),(b9 (b8 ((b8 w).2.dropWhile en)).2).1,()),(b8 w).1,(b8 ((b8 w).2.dropWhile en)).1,()):=rfl
 rw[←e]
 have e1:(((jz ((b8 w).2.takeWhile en):Nat):Int),(b9 (b8 ((b8 w).2.dropWhile en)).2).1,())=(o9 w).1:=rfl
 rw[e1]
 cases hr:ar (o9 w).1 with
 | false=>simp
 | true =>
  simp only[Bool.not_true,Bool.false_eq_true,if_false,if_true,cN,true_and]
  by_cases hp:eO (o9 w)=w
  ·simp[hp]
  ·simp[hp]
theorem F1 : ∀ c:Fin 53,1≤c.val→(fL c.val).all en=true:=by decide +kernel
theorem T0 {y:UInt8} (h:en y=true):y≠36:=by
 rintro rfl
 exact absurd h (by decide)
theorem RP {y:UInt8} (h:cZ y=true):y≠36∧en y=false:=by
 refine⟨?_,?_⟩
 ·rintro rfl
  exact absurd h (by decide)
 ·simp only[cZ,en,Bool.and_eq_true,decide_eq_true_eq,Bool.and_eq_false_iff,decide_eq_false_iff_not] at h ⊢
  omega
theorem EI (u:Nat) : ∃ y l,Lib.decDigits u=y :: l∧cZ y=true:=by
 have h:=pW u
 unfold iz at h
 simp only[Bool.and_eq_true,decide_eq_true_eq] at h
 cases hd:Lib.decDigits u with
 | nil=>rw[hd] at h; simp at h
 | cons y l =>
  rw[hd] at h
  refine⟨y,l,rfl,?_⟩
  have:=h.1.1
  simp only[List.all_cons,Bool.and_eq_true] at this
  exact this.1
theorem Sm {c:Nat} (h1:1≤c) (h2:c≤52) (x:ae):(fL c++x).head? ≠ some 36:=by
 have h:=F1 ⟨c,by omega⟩ h1
 have hl:=pX c
 simp only at h
 cases hc:fL c with
 | nil=>rw[hc] at hl; simp at hl
 | cons y l =>
  rw[hc] at h
  simp only[List.all_cons,Bool.and_eq_true] at h
  intro e
  simp only[List.cons_append,List.head?_cons,Option.some.injEq] at e
  exact T0 h.1 e
theorem J2 {c r:Nat} (h1:1≤c) (h2:c≤52) (fc fr:Bool):(b8 (rB c r fc fr)).1=fc∧(b8 (rB c r fc fr)).2.takeWhile en=fL c∧(b8 ((b8 (rB c r fc fr)).2.dropWhile en)).1=fr∧(b8 ((b8 (rB c r fc fr)).2.dropWhile en)).2=Lib.decDigits r:=by
 unfold rB
 rw[JZ (Sm h1 h2 _)]
 have hu:=List.all_eq_true.1 (F1 ⟨c,by omega⟩ h1)
 simp only at hu ⊢
 obtain⟨y,l,hy,hd⟩:=EI r
 have hn : ∃ z m,o8 fr++Lib.decDigits r=z :: m∧en z=false:=by
  cases fr with
  | true=>exact⟨36,_,rfl,by decide⟩
  | false=>exact⟨y,l,hy,(RP hd).2⟩
 obtain⟨z,m,hz,hzu⟩:=hn
 have ht:(o8 fr++Lib.decDigits r).takeWhile en=[]:=by rw[hz]; simp[hzu]
 have hdr:(o8 fr++Lib.decDigits r).dropWhile en=o8 fr++Lib.decDigits r:=by rw[hz]; simp[hzu]
 rw[List.takeWhile_append_of_pos hu,List.dropWhile_append_of_pos hu,ht,hdr,List.append_nil,JZ (by rw[hy]; simp only[List.head?_cons,ne_eq,Option.some.injEq]; exact(RP hd).1)]
 simp
theorem uR {p:aB} (h:ar p.1=true) : ∃(c r:Nat) (fc fr:Bool),p=(((c:Int),(r:Int),()),fc,fr,())∧1≤c∧c≤52∧1≤r∧r≤99:=by
 obtain⟨⟨c,r,u⟩,fc,fr,u'⟩:=p
 obtain⟨⟨h1,h2⟩,h3,h4⟩:=bC.1 h
 simp only at h1 h2 h3 h4
 refine⟨c.toNat,r.toNat,fc,fr,?_,by omega,by omega,by omega,by omega⟩
 rw[Int.toNat_of_nonneg (by omega),Int.toNat_of_nonneg (by omega)]
theorem Sn {p:aB} (h:ar p.1=true):o9 (eO p)=p:=by
 obtain⟨c,r,fc,fr,rfl,h1,h2,h3,h4⟩:=uR h
 obtain⟨e1,e2,e3,e4⟩:=J2 (r:=r) h1 h2 fc fr
 show o9 (rB c r fc fr)=_
 unfold o9
 rw[e1,e2,e3,e4,EH ⟨c,by omega⟩ h1,Pv (by omega)]
def pa (fc:Bool) (ls w2:ae):aB×Bool :=
 if cu (b8 w2).2 2=true∧ar (((jz ls:Nat):Int),((bn 0 (b8 w2).2:Nat):Int),())=true then(((((jz ls:Nat):Int),((bn 0 (b8 w2).2:Nat):Int),()),fc,(b8 w2).1,()),true) else(p0,false)
def co (w:ae):aB×Bool:=pa (b8 w).1 ((b8 w).2.takeWhile en) ((b8 w).2.dropWhile en)
theorem Ny {fc:Bool} {ls w2:ae} {f1:Bool} {w3:ae} (h:b8 w2=(f1,w3)) :
  ((cL (ba w3) 2).bind fun z2=>(if(!z2.1.2.1)=true then(some ((((0,0,()),false,false,()),false,()),(()))) else((cA (((jz ls:Nat):Int),z2.1.1,())).bind fun z3=>(if(!z3.1.1)=true then(some ((((0,0,()),false,false,()),false,()),(()))) else(some (((((((jz ls:Nat):Int),z2.1.1,()),fc,f1,()):aB),true,()),(())))))))=some (((pa fc ls w2).1,(pa fc ls w2).2,()),()):=by
 have e:=Ag w3 (m:=2) (by decide)
 have e:cL (ba w3) 2=_:=e
 rw[e]
 simp only[Option.bind_some,gB]
 unfold pa
 rw[h]
 cases hr:cu w3 2 with
 | false=>simp
 | true =>
  simp only[Bool.not_true,Bool.false_eq_true,if_false,if_true,true_and]
  cases ho:ar (((jz ls:Nat):Int),((bn 0 w3:Nat):Int),()) with
  | false=>simp
  | true=>simp
theorem Uf {fc:Bool} {w1 pre ys:ae} (h:w1=pre++ys) (hl:w1.length≤9223372036854775807) :
  (BU (ba w1) (pre.length:Int) fun y7=>((pL y7).bind fun z8=>(ii (ba w1) (pre.length:Int) fun y8=>(if(decide ((ByteArray.size y8:Int) > 0))=true then(d9 y8 0 fun y9=>(if(y9 == 36)=true then(ii y8 1 fun y10=>((cL y10 2).bind fun z9=>(if(!z9.1.2.1)=true then(some ((((0,0,()),false,false,()),false,()),(()))) else((cA (z8.1.1,z9.1.1,())).bind fun z10=>(if(!z10.1.1)=true then(some ((((0,0,()),false,false,()),false,()),(()))) else(some ((((z8.1.1,z9.1.1,()),fc,true,()),true,()),(())))))))) else((cL y8 2).bind fun z11=>(if(!z11.1.2.1)=true then(some ((((0,0,()),false,false,()),false,()),(()))) else((cA (z8.1.1,z11.1.1,())).bind fun z12=>(if(!z12.1.1)=true then(some ((((0,0,()),false,false,()),false,()),(()))) else(some ((((z8.1.1,z11.1.1,()),fc,false,()),true,()),(()))))))))) else((cL y8 2).bind fun z13=>(if(!z13.1.2.1)=true then(some ((((0,0,()),false,false,()),false,()),(()))) else((cA (z8.1.1,z13.1.1,())).bind fun z14=>(if(!z14.1.1)=true then(some ((((0,0,()),false,false,()),false,()),(()))) else(some ((((z8.1.1,z13.1.1,()),fc,false,()),true,()),(())))))))))))
   = (some (((pa fc pre ys).1,(pa fc pre ys).2,()),()):Option ((aB×Bool×Unit)×Unit)):=by
 subst h
 have hle:pre.length≤(pre++ys).length:=by simp
 rw[EF hle,List.take_left' rfl,Lp]
 simp only[Option.bind_some]
 rw[fq hle,List.drop_left' rfl,aq]
 cases ys with
 | nil =>
  rw[av (by simp)]
  exact Ny rfl
 | cons y l =>
  rw[aD (by simp),o6]
  by_cases hy:y=36
  ·subst hy
   rw[if_pos (by rfl),show(1:Int)=((1:Nat):Int) from rfl,fq (by simp)]
   exact Ny (by unfold b8; rw[fY]; simp)
  ·have h0' : ¬((y.toNat:Int) == 36)=true:=by
    simp only[beq_iff_eq]
    intro e
    apply hy
    apply UInt8.toNat_inj.1
    show y.toNat=36
    omega
   rw[if_neg h0']
   exact Ny (by unfold b8; rw[fY]; simp[hy])
theorem kt {fc:Bool} {w1:ae} (hl:w1.length≤9223372036854775806) : ∀(ys pre:ae),w1=pre++ys→hZ (ba w1) (pre.length:Int) 0 0 false false 0 0 fc false=some (((pa fc (pre++ys.takeWhile en) (ys.dropWhile en)).1,(pa fc (pre++ys.takeWhile en) (ys.dropWhile en)).2,()),())
 | [],pre,h=>by
  have hlen:w1.length=pre.length:=by rw[h]; simp
  rw[tx,av (by rw[aq]; omega)]
  simpa using Uf (fc:=fc) h (by omega)
 | y :: ys,pre,h=>by
  have hlen:pre.length < w1.length:=by rw[h]; simp
  rw[tx,aD (by rw[aq]; omega),jQ h]
  cases hu:en y with
  | true =>
   have hu':65≤y.toNat∧y.toNat≤90:=by simpa[en] using hu
   rw[aD (by omega),jQ h,aD (by omega),wr (by omega) (by omega),show(pre.length:Int)+1=((pre++[y]).length:Int) by simp,kt hl ys (pre++[y]) (by rw[h]; simp)]
   simp[hu]
  | false =>
   have hk:=Uf (fc:=fc) h (by omega)
   rw[List.takeWhile_cons_of_neg (by simp[hu]),List.dropWhile_cons_of_neg (by simp[hu]),List.append_nil]
   by_cases h1:65≤y.toNat
   ·have h2 : ¬y.toNat≤90:=by
     intro h2
     simp[en,h1,h2] at hu
    rw[aD (by omega),jQ h,av (by omega)]
    exact hk
   ·rw[av (by omega)]
    exact hk
theorem rm {w:ae} (hw:w.length≤281474976710656):lC (ba w)=some (((co w).1,(co w).2,()),()):=by
 rw[HR,aq]
 cases w with
 | nil =>
  rw[av (by simp)]
  exact kt (fc:=false) (w1:=[]) (by simp) [] [] rfl
 | cons y l =>
  rw[List.length_cons] at hw
  rw[aD (by simp),o6]
  by_cases hy:y=36
  ·subst hy
   rw[if_pos (by rfl),show(1:Int)=((1:Nat):Int) from rfl,fq (by simp)]
   have:=kt (fc:=true) (w1:=l) (by omega) l [] rfl
   have e:b8 (36 :: l)=(true,l):=by unfold b8; rw[fY]; simp
   unfold co
   rw[e]
   exact this
  ·have h0' : ¬((y.toNat:Int) == 36)=true:=by
    simp only[beq_iff_eq]
    intro e
    apply hy
    apply UInt8.toNat_inj.1
    show y.toNat=36
    omega
   rw[if_neg h0']
   have:=kt (fc:=false) (w1:=y :: l) (by rw[List.length_cons]; omega) (y :: l) [] rfl
   have e:b8 (y :: l)=(false,y :: l):=by unfold b8; rw[fY]; simp[hy]
   unfold co
   rw[e]
   exact this
theorem So {w:ae} (h:(co w).2=true):ar (co w).1.1=true∧eO (co w).1=w:=by
 unfold co pa at h ⊢
 split at h
 ·rename_i hc
  rw[if_pos hc]
  refine⟨hc.2,?_⟩
  obtain⟨⟨k1,k2⟩,k3,k4⟩:=bC.1 hc.2
  simp only at k1 k2 k3 k4
  obtain⟨c1,c2⟩:=Pu (w:=(b8 w).2.takeWhile en) (by omega)
  obtain⟨r1,r2⟩:=C1 hc.1
  unfold eO rB
  simp only[Int.toNat_natCast]
  rw[c2,r1,Hh,List.takeWhile_append_dropWhile,Hh]
 ·cases h
theorem nG {p:aB} (h:ar p.1=true):co (eO p)=(p,true):=by
 obtain⟨c,r,fc,fr,rfl,h1,h2,h3,h4⟩:=uR h
 obtain⟨e1,e2,e3,e4⟩:=J2 (r:=r) h1 h2 fc fr
 show co (rB c r fc fr)=_
 unfold co pa
 rw[e1,e2,e3,e4,EH ⟨c,by omega⟩ h1,pV,if_pos ⟨Ah (si h4),h⟩]
theorem Sp {w:ae} (h:(co w).2=false):co w=(p0,false):=by
 unfold co pa at h ⊢
 split at h
 ·cases h
 ·rename_i hc
  rw[if_neg hc]
theorem mW {w:ae} (hw:w.length≤281474976710656):gu (ba w)=some (((co w).1,(co w).2,()),()):=by
 rw[J1 hw]
 by_cases h:ar (o9 w).1=true∧eO (o9 w)=w
 ·have:=nG h.1
  rw[h.2] at this
  rw[if_pos h,decide_eq_true h,this]
 ·rw[if_neg h,decide_eq_false h]
  cases h2:(co w).2 with
  | false=>rw[Sp h2]
  | true =>
   obtain⟨k1,k2⟩:=So h2
   refine absurd ?_ h
   have:=Sn k1
   rw[k2] at this
   rw[this]
   exact⟨k1,k2⟩
end Go.Proofs.YtddiiceaindlhaaGreatDoor.Abs
set_option linter.unusedVariables false
set_option linter.unusedSimpArgs false
set_option linter.unusedSectionVars false
namespace Go.Proofs.YtddiiceaindlhaaGreatDoor.Abs
open Go
def g5:ae:=[84,82,85,69]
def im:ae:=[70,65,76,83,69]
def eN (w:ae):Int:=if cT 5=ba w then 5 else if cT 4=ba w then 4 else if cT 3=ba w then 3 else if cT 2=ba w then 2 else if cT 1=ba w then 1 else 0
theorem Sq {w:ae} (h:eN w≠0):cT (eN w)=ba w∧1≤eN w∧eN w≤5:=by
 unfold eN at h ⊢
 split
 ·exact⟨‹_›,by decide,by decide⟩
 ·split
  ·exact⟨‹_›,by decide,by decide⟩
  ·split
   ·exact⟨‹_›,by decide,by decide⟩
   ·split
    ·exact⟨‹_›,by decide,by decide⟩
    ·split
     ·exact⟨‹_›,by decide,by decide⟩
     ·rename_i h1 h2 h3 h4 h5
      simp[h1,h2,h3,h4,h5] at h
theorem Hj : ∀ n:Fin 6,1≤n.val→eN (lb (cT (n.val:Int)))=(n.val:Int):=by decide +kernel
def uS (w:ae):ay :=
 if w=[] then v0 else
 if w.head? = some 39 then vT (ba (w.drop 1)) else
 if w=g5 then vB true else
 if w=im then vB false else
 if w.head? = some 35 then(4,eN w,eS,()) else
 if w.head? = some 45 then(if cu (w.drop 1) 16=true∧bn 0 (w.drop 1)≠0 then vN (-((bn 0 (w.drop 1):Nat):Int)) else(9,0,eS,())) else
 if cu w 16=true then vN ((bn 0 w:Nat):Int) else(9,0,eS,())
def bq (w:ae):ay×Bool:=if aN (uS w)=true then(uS w,true) else(v0,false)
theorem L9 {v:ay} (h:v.2.2.1.size≤9223372036854775807) {a b:Int} {c:ByteArray}:aC a b c v.1 v.2.1 v.2.2.1=some ((if aN v=true then v else v0,aN v,()),()):=by
 rw[BM,show(v.1,v.2.1,v.2.2.1,())=v from rfl,my h]
 simp only[Option.bind_some]
 cases aN v <;> rfl
theorem tM {w:ae} {n:Int} (h0:0≤n) (h1:n≤5) {a b e N:Int} {c f:ByteArray}:eJ (ba w) n a b c e N f=eJ (ba w) (n+1) a b c e (if cT n=ba w then n else N) f:=by
 rw[rx,aD h1,yb h0 h1]
 simp only[Option.bind_some,jE,decide_eq_true_eq]
 rw[wr (by omega) (by omega)]
 split <;> rfl
theorem Ti {w:ae}:eJ (ba w) 1 0 0 eS 4 0 eS=some ((if aN (4,eN w,eS,())=true then(4,eN w,eS,()) else v0,aN (4,eN w,eS,()),()),()):=by
 rw[tM (by decide) (by decide),tM (by decide) (by decide),tM (by decide) (by decide),tM (by decide) (by decide),tM (by decide) (by decide),rx,av (by decide)]
 exact L9 (v:=(4,eN w,eS,())) (by show eS.size≤_; decide)
theorem Q2 {w:ae} (hw:w.length≤9223372036854775807) {y:UInt8} {l:ae} (h:w=y :: l) :
  (if((y.toNat:Int) == 45)=true then(ii (ba w) 1 fun y5=>((cL y5 16).bind fun z1=>(if(!z1.1.2.1)=true then(some (((0,0,(⟨#[]⟩:ByteArray),()),false,()),(()))) else(if((y.toNat:Int) == 45)=true then(if(z1.1.1 == 0)=true then(some (((0,0,(⟨#[]⟩:ByteArray),()),false,()),(()))) else(if((y.toNat:Int) == 45)=true then(aC 0 0 (⟨#[]⟩:ByteArray) 1 (IntKind.i64.wrap (0 - z1.1.1)) (⟨#[]⟩:ByteArray)) else(aC 0 0 (⟨#[]⟩:ByteArray) 1 z1.1.1 (⟨#[]⟩:ByteArray)))) else(if((y.toNat:Int) == 45)=true then(aC 0 0 (⟨#[]⟩:ByteArray) 1 (IntKind.i64.wrap (0 - z1.1.1)) (⟨#[]⟩:ByteArray)) else(aC 0 0 (⟨#[]⟩:ByteArray) 1 z1.1.1 (⟨#[]⟩:ByteArray)))))))
   else((cL (ba w) 16).bind fun z2=>(if(!z2.1.2.1)=true then(some (((0,0,(⟨#[]⟩:ByteArray),()),false,()),(()))) else(if((y.toNat:Int) == 45)=true then(if(z2.1.1 == 0)=true then(some (((0,0,(⟨#[]⟩:ByteArray),()),false,()),(()))) else(if((y.toNat:Int) == 45)=true then(aC 0 0 (⟨#[]⟩:ByteArray) 1 (IntKind.i64.wrap (0 - z2.1.1)) (⟨#[]⟩:ByteArray)) else(aC 0 0 (⟨#[]⟩:ByteArray) 1 z2.1.1 (⟨#[]⟩:ByteArray)))) else(if((y.toNat:Int) == 45)=true then(aC 0 0 (⟨#[]⟩:ByteArray) 1 (IntKind.i64.wrap (0 - z2.1.1)) (⟨#[]⟩:ByteArray)) else(aC 0 0 (⟨#[]⟩:ByteArray) 1 z2.1.1 (⟨#[]⟩:ByteArray)))))))
   = (let v:ay:=if w.head? = some 45 then(if cu (w.drop 1) 16=true∧bn 0 (w.drop 1)≠0 then vN (-((bn 0 (w.drop 1):Nat):Int)) else(9,0,eS,())) else if cu w 16=true then vN ((bn 0 w:Nat):Int) else(9,0,eS,())
    some ((if aN v=true then v else v0,aN v,()),())):=by
 have e9:aN (9,0,eS,())=false:=by decide
 have hint : ∀ x:ae,cL (ba x) 16=_:=fun x=>Ag x (m:=16) (by decide)
 have hrange : ∀ x:ae,cu x 16=true→bn 0 x < 10 ^ 16:=by
  intro x hx
  unfold cu iz at hx
  simp only[Bool.and_eq_true,decide_eq_true_eq] at hx
  have:=Bm x 0 hx.1.1.1
  exact Nat.lt_of_lt_of_le (by simpa using this) (Nat.pow_le_pow_right (by decide) hx.2)
 subst h
 by_cases hy:y=45
 ·subst hy
  have e:(((45:UInt8).toNat:Int) == 45)=true:=rfl
  simp only[e,if_true,List.head?_cons,List.drop_succ_cons,List.drop_zero]
  rw[show(1:Int)=((1:Nat):Int) from rfl,fq (by simp)]
  simp only[List.drop_succ_cons,List.drop_zero,hint,Option.bind_some]
  cases hr:cu l 16 with
  | false=>simp[e9]; rfl
  | true =>
   have:=hrange l hr
   by_cases h0:bn 0 l=0
   ·simp[h0,e9]; rfl
   ·have h0' : ¬(((bn 0 l:Nat):Int) == 0)=true:=by simp only[beq_iff_eq]; omega
    simp only[Bool.not_true,Bool.false_eq_true,if_false,if_true,h0',ne_eq,h0,not_false_eq_true,and_self]
    rw[wr (by omega) (by omega),show(0:Int) - ((bn 0 l:Nat):Int) = -((bn 0 l:Nat):Int) by omega]
    exact L9 (v:=vN _) (by show eS.size≤_; decide)
 ·have e : ¬((y.toNat:Int) == 45)=true:=by
   simp only[beq_iff_eq]
   intro e
   apply hy
   apply UInt8.toNat_inj.1
   show y.toNat=45
   omega
  have e2 : ¬(some y=some (45:UInt8)):=by simpa using hy
  simp only[e,if_false,List.head?_cons,e2,hint,Option.bind_some]
  cases hr:cu (y :: l) 16 with
  | false=>simp[e9]; rfl
  | true =>
   have:=hrange _ hr
   simp only[Bool.not_true,Bool.false_eq_true,if_false,if_true]
   exact L9 (v:=vN _) (by show eS.size≤_; decide)
theorem rn {w:ae} (hw:w.length≤9223372036854775807):rT (ba w)=some (((bq w).1,(bq w).2,()),()):=by
 have aL : ∀ v:ay,uS w=v→some ((if aN v=true then v else v0,aN v,()),())=(some (((bq w).1,(bq w).2,()),()):Option ((ay×Bool×Unit)×Unit)):=by
  intro v hv
  unfold bq
  rw[hv]
  cases aN v <;> rfl
 rw[HT]
 have e0:(ByteArray.toList (ba w) == ByteArray.toList (⟨#[]⟩:ByteArray))=decide (w=[]):=cN (b:=[])
 have e1:(ByteArray.toList (ba w) == ByteArray.toList (⟨#[84,82,85,69]⟩:ByteArray))=decide (w=g5):=cN (b:=g5)
 have e2:(ByteArray.toList (ba w) == ByteArray.toList (⟨#[70,65,76,83,69]⟩:ByteArray))=decide (w=im):=cN (b:=im)
 rw[e0,e1,e2]
 cases w with
 | nil =>
  rw[aD rfl]
  exact aL v0 rfl
 | cons y l =>
  rw[av (by simp)]
  simp only[o6]
  rw[CZ y 39 (n:=39) rfl,CZ y 35 (n:=35) rfl]
  have hv:=uS.eq_def (y :: l)
  rw[if_neg (by simp)] at hv
  by_cases h39:y=39
  ·rw[aD h39,show(1:Int)=((1:Nat):Int) from rfl,fq (by simp)]
   rw[if_pos (by rw[h39]; rfl)] at hv
   rw[List.length_cons] at hw
   exact(L9 (v:=vT (ba ((y :: l).drop 1))) (by show(ba _).size≤_; rw[aq]; simp; omega)).trans (aL _ hv)
  ·rw[av h39]
   rw[if_neg (by simpa using h39)] at hv
   by_cases ht:(y :: l)=g5
   ·rw[if_pos ht] at hv
    rw[aD ht,aD ht,aD ht]
    exact(L9 (v:=vB true) (by decide)).trans (aL _ hv)
   ·rw[if_neg ht] at hv
    rw[av ht]
    by_cases hf:(y :: l)=im
    ·rw[if_pos hf] at hv
     rw[aD hf,av ht]
     exact(L9 (v:=vB false) (by decide)).trans (aL _ hv)
    ·rw[if_neg hf] at hv
     rw[av hf]
     by_cases h35:y=35
     ·rw[aD h35]
      rw[if_pos (by rw[h35]; rfl)] at hv
      exact Ti.trans (aL _ hv)
     ·rw[av h35]
      rw[if_neg (by simpa using h35)] at hv
      exact(Q2 hw rfl).trans (aL _ hv)
theorem uT {n:Int} (h:n < 0):de n=ba (45 :: Lib.decDigits (-n).toNat):=by
 rw[Ab h,show -n=((-n).toNat:Int) by omega,lc,show(⟨#[45]⟩:ByteArray)=ba [45] from rfl,mz]
 congr 2
theorem wX {u:Nat}:Lib.decDigits u≠[]∧(Lib.decDigits u).head? ≠ some 39∧(Lib.decDigits u).head? ≠ some 35∧(Lib.decDigits u).head? ≠ some 45∧Lib.decDigits u≠g5∧Lib.decDigits u≠im:=by
 obtain⟨y,l,hy,hd⟩:=EI u
 rw[hy]
 have hn : ∀ c:UInt8,cZ c=false→y≠c:=by
  rintro c hc rfl
  rw[hd] at hc
  cases hc
 refine⟨by simp,?_,?_,?_,?_,?_⟩
 ·simpa using hn 39 (by decide)
 ·simpa using hn 35 (by decide)
 ·simpa using hn 45 (by decide)
 ·intro e
  exact hn 84 (by decide) (List.cons.inj e).1
 ·intro e
  exact hn 70 (by decide) (List.cons.inj e).1
theorem Nz {u:Nat} (h:u≤1000000000000000):(Lib.decDigits u).length≤16:=Ex 15 u (by omega)
theorem Sr {v:ay} (h:aN v=true) (k:v.1≠2):v.2.2.1=eS:=by
 unfold aN at h
 rw[if_neg k] at h
 simp only[Bool.and_eq_true,decide_eq_true_eq] at h
 exact h.1
theorem Ss {v:ay} (h:aN v=true) (k:v.1=0):v.2.1=0:=by
 unfold aN at h
 rw[if_neg (by omega),if_pos k] at h
 simp only[Bool.and_eq_true,decide_eq_true_eq] at h
 exact h.2
theorem Ma {v:ay} (h:aN v=true) (k:v.1=2):v.2.1=0:=by
 unfold aN at h
 rw[if_pos k] at h
 simp only[Bool.and_eq_true,decide_eq_true_eq] at h
 exact h.1
theorem qy {v:ay} (h:aN v=true):v=v0∨(∃ n,v=vN n ∧ -1000000000000000≤n∧n≤1000000000000000)∨(∃ s,v=vT s)∨(∃ b,v=vB b) ∨ ∃ n:Fin 6,v=vE (n.val:Int)∧1≤n.val:=by
 obtain⟨k,n,s,u⟩:=v
 have hS:=fun hk=>Sr h hk
 rcases Nt h with hk | hk | hk | hk | hk <;> simp only at hk <;> subst hk
 ·have h0:=Ss h rfl
  have h1:=hS (by show(_:Int)≠2; omega)
  simp only at h0 h1
  subst h0; subst h1
  exact .inl rfl
 ·have h0:=Bk h rfl
  have h1:=hS (by show(_:Int)≠2; omega)
  simp only at h0 h1
  subst h1
  exact .inr (.inl ⟨n,rfl,h0.1,h0.2⟩)
 ·have h0:=Ma h rfl
  simp only at h0
  subst h0
  exact .inr (.inr (.inl ⟨s,rfl⟩))
 ·have h0:=L5 h rfl
  have h1:=hS (by show(_:Int)≠2; omega)
  simp only at h0 h1
  subst h1
  refine .inr (.inr (.inr (.inl ⟨decide (n=1),?_⟩)))
  have:n=0∨n=1:=by omega
  rcases this with rfl | rfl <;> rfl
 ·have h0:=Bl h rfl
  have h1:=hS (by show(_:Int)≠2; omega)
  simp only at h0 h1
  subst h1
  refine .inr (.inr (.inr (.inr ⟨⟨n.toNat,by omega⟩,?_,by simp; omega⟩)))
  show _=vE ((n.toNat:Nat):Int)
  rw[Int.toNat_of_nonneg (by omega)]
  rfl
theorem Q3 {v:ay} (h:aN v=true):uS (lb (cE v))=v:=by
 rcases qy h with rfl | ⟨n,rfl,h0,h1⟩ | ⟨s,rfl⟩ | ⟨b,rfl⟩ | ⟨n,rfl,h0⟩
 ·rfl
 ·have e:cE (vN n)=de n:=rfl
  rw[e]
  by_cases hn:n < 0
  ·rw[uT hn,dk]
   have hr:cu (Lib.decDigits (-n).toNat) 16=true:=Ah (Nz (by omega))
   unfold uS
   simp only[List.head?_cons,List.drop_succ_cons,List.drop_zero,hr,pV]
   rw[if_neg (by simp),if_neg (by decide),if_neg (by unfold g5; simp),if_neg (by unfold im; simp),if_neg (by decide),if_pos trivial,if_pos ⟨trivial,by omega⟩]
   congr 1
   omega
  ·rw[show n=(n.toNat:Int) by omega,lc,dk]
   have hr:cu (Lib.decDigits n.toNat) 16=true:=Ah (Nz (by omega))
   obtain⟨d1,d2,d3,d4,d5,d6⟩:=wX (u:=n.toNat)
   unfold uS
   rw[if_neg d1,if_neg d2,if_neg d5,if_neg d6,if_neg d3,if_neg d4,if_pos hr,pV]
 ·have e:lb (cE (vT s))=39 :: lb s:=by
   show lb ((⟨#[39]⟩:ByteArray)++s)=_
   rw[←fX s,show(⟨#[39]⟩:ByteArray)=ba [39] from rfl,mz,dk]
   simp
  rw[e]
  unfold uS
  rw[if_neg (by simp),if_pos (by rfl)]
  simp only[List.drop_succ_cons,List.drop_zero,fX]
 ·cases b <;> rfl
 ·have e:lb (cE (vE (n.val:Int)))=lb (cT (n.val:Int)):=rfl
  rw[e]
  have h1 : ∀ n:Fin 6,1≤n.val→lb (cT (n.val:Int))≠[]∧(lb (cT (n.val:Int))).head? = some 35∧lb (cT (n.val:Int))≠g5∧lb (cT (n.val:Int))≠im:=by decide +kernel
  obtain⟨a1,a2,a3,a4⟩:=h1 n h0
  unfold uS
  rw[if_neg a1,if_neg (by rw[a2]; decide),if_neg a3,if_neg a4,if_pos a2,Hj n h0]
  rfl
theorem ye {v:ay} (h:aN v=true):bq (lb (cE v))=(v,true):=by
 unfold bq
 rw[Q3 h,if_pos h]
theorem Tj {w:ae} (h:aN (uS w)=true):cE (uS w)=ba w:=by
 unfold uS at h ⊢
 split
 ·rename_i hw
  rw[hw]
  rfl
 ·rename_i hw
  rw[if_neg hw] at h
  split
  ·rename_i h39
   cases w with
   | nil=>cases h39
   | cons y l =>
    simp only[List.head?_cons,Option.some.injEq] at h39
    subst h39
    show(⟨#[39]⟩:ByteArray)++ba l=_
    rw[show(⟨#[39]⟩:ByteArray)=ba [39] from rfl,mz]
    rfl
  ·rename_i h39
   rw[if_neg h39] at h
   split
   ·rename_i ht
    rw[ht]
    rfl
   ·rename_i ht
    rw[if_neg ht] at h
    split
    ·rename_i hf
     rw[hf]
     rfl
    ·rename_i hf
     rw[if_neg hf] at h
     split
     ·rename_i h35
      rw[if_pos h35] at h
      have:=Bl h rfl
      simp only at this
      exact(Sq (by omega)).1
     ·rename_i h35
      rw[if_neg h35] at h
      have e9:aN (9,0,eS,())=false:=by decide
      split
      ·rename_i h45
       rw[if_pos h45] at h
       split
       ·rename_i hc
        cases w with
        | nil=>cases h45
        | cons y l =>
         simp only[List.head?_cons,Option.some.injEq] at h45
         subst h45
         simp only[List.drop_succ_cons,List.drop_zero] at hc ⊢
         show de (-((bn 0 l:Nat):Int))=_
         rw[uT (by omega),show(- -((bn 0 l:Nat):Int)).toNat=bn 0 l by omega,(C1 hc.1).1]
       ·rename_i hc
        rw[if_neg hc,e9] at h
        cases h
      ·rename_i h45
       rw[if_neg h45] at h
       split
       ·rename_i hc
        show de ((bn 0 w:Nat):Int)=_
        rw[lc,(C1 hc).1]
       ·rename_i hc
        rw[if_neg hc,e9] at h
        cases h
theorem pY {w:ae} (h:(bq w).2=true):aN (bq w).1=true∧cE (bq w).1=ba w:=by
 unfold bq at h ⊢
 split at h
 ·rename_i hc
  rw[if_pos hc]
  exact⟨hc,Tj hc⟩
 ·cases h
theorem Q4 {w:ae} (h:(bq w).2=false):bq w=(v0,false):=by
 unfold bq at h ⊢
 split at h
 ·cases h
 ·rename_i hc
  rw[if_neg hc]
end Go.Proofs.YtddiiceaindlhaaGreatDoor.Abs
set_option linter.unusedVariables false
set_option linter.unusedSimpArgs false
set_option linter.unusedSectionVars false
namespace Go.Proofs.YtddiiceaindlhaaGreatDoor.Abs
open Go
theorem Mb : ∀(l:ae) (a:Nat),a≤bn a l
 | [],a=>Nat.le_refl _
 | c :: l,a=>by
  have:=Mb l (a*10+(c.toNat - 48))
  show a≤bn (a*10+(c.toNat - 48)) l
  omega
theorem Ip : ∀(l:ae) (a:Nat),l.all cZ=true→bn a l≤100000000000000000→Lib.parseUintM 18446744073709551615 a l = .ok (bn a l)
 | [],a,_,_=>rfl
 | c :: l,a,h,hv=>by
  simp only[List.all_cons,Bool.and_eq_true] at h
  have hd:48≤c.toNat∧c.toNat≤57:=by simpa[cZ] using h.1
  have hg:=Mb l (a*10+(c.toNat - 48))
  have hv':bn (a*10+(c.toNat - 48)) l≤100000000000000000:=hv
  unfold Lib.parseUintM
  rw[if_pos hd,if_neg (by omega),if_neg (by omega),Ip l _ h.2 hv']
  rfl
theorem Bn {l:ae} (h:iz l=true):l.all cZ=true:=by
 unfold iz at h
 simp only[Bool.and_eq_true] at h
 exact h.1.1
theorem Pw {u:Nat} (h:u≤1000000000000000):Lib.parseUintB 64 (Lib.decDigits u) = .ok u:=by
 unfold Lib.parseUintB
 rw[if_neg wX.1]
 have:=Ip (Lib.decDigits u) 0 (Bn (pW u)) (by rw[pV]; omega)
 rw[pV] at this
 exact this
theorem NA {u:Nat} (h:u≤1000000000000000):b9 (Lib.decDigits u)=((u:Int),true):=by
 obtain⟨y,l,hy,hd⟩:=EI u
 have hd':48≤y.toNat∧y.toNat≤57:=by simpa[cZ] using hd
 have hp:=Pw h
 unfold b9
 have:Lib.parseIntB 64 (Lib.decDigits u) = .ok (u:Int):=by
  rw[hy] at hp ⊢
  unfold Lib.parseIntB
  simp only
  rw[if_neg (by omega),hp]
  simp only
  rw[if_neg (by omega),if_neg (by omega),if_neg (by omega)]
 rw[this]
theorem NB {u:Nat} (h:u≤1000000000000000):b9 (45 :: Lib.decDigits u)=(-(u:Int),true):=by
 have hp:=Pw h
 unfold b9
 have:Lib.parseIntB 64 (45 :: Lib.decDigits u) = .ok (-(u:Int)):=by
  unfold Lib.parseIntB
  simp only
  have h45:(45:UInt8).toNat=45:=rfl
  rw[if_pos (.inr h45),hp]
  simp only
  rw[if_neg (by omega),if_neg (by omega),if_pos h45]
 rw[this]
def cV (w:ae):ay :=
 if([39]:ae).isPrefixOf w=true then vT (ba (w.drop 1)) else
 if w=im then vB (decide (w=g5)) else
 if w=g5 then vB (decide (w=g5)) else
 if([35]:ae).isPrefixOf w=true then(if eN w=0 then v0 else vE (eN w)) else
 if w≠[] then vN (b9 w).1 else v0
theorem Bo {v:ay} {w:ae} (h:v.2.2.1.size≤9223372036854775807):((gT v).bind fun z2=>(if(!z2.1.1)=true then(some (((0,0,(⟨#[]⟩:ByteArray),()),false,()),(()))) else((fz v).bind fun z3=>(if(!(ByteArray.toList z3.1.1 == ByteArray.toList (ba w)))=true then(some (((0,0,(⟨#[]⟩:ByteArray),()),false,()),(()))) else(some ((v,true,()),(())))))))=some ((if aN v=true∧cE v=ba w then v else v0,decide (aN v=true∧cE v=ba w),()),()):=by
 rw[vw h]
 simp only[Option.bind_some]
 cases ho:aN v with
 | false=>simp; rfl
 | true =>
  rw[yR ho]
  simp only[Option.bind_some,Bool.not_true,Bool.false_eq_true,if_false,jE,true_and]
  by_cases hv:cE v=ba w
  ·simp[hv]
  ·simp[hv]; rfl
theorem Tk {w:ae} (hc : ∀ v:ay,aN v=true→cE v=ba w→cV w=v):(if aN (cV w)=true∧cE (cV w)=ba w then cV w else v0)=(bq w).1∧decide (aN (cV w)=true∧cE (cV w)=ba w)=(bq w).2:=by
 by_cases h:aN (cV w)=true∧cE (cV w)=ba w
 ·have:=ye h.1
  rw[h.2,dk] at this
  rw[if_pos h,decide_eq_true h,this]
  exact⟨rfl,rfl⟩
 ·rw[if_neg h,decide_eq_false h]
  cases h2:(bq w).2 with
  | false=>rw[Q4 h2]; exact⟨rfl,rfl⟩
  | true =>
   obtain⟨k1,k2⟩:=pY h2
   refine absurd ?_ h
   rw[hc _ k1 k2]
   exact⟨k1,k2⟩
theorem Su {v:ay} (h:aN v=true):cV (lb (cE v))=v:=by
 rcases qy h with rfl | ⟨n,rfl,h0,h1⟩ | ⟨s,rfl⟩ | ⟨b,rfl⟩ | ⟨n,rfl,h0⟩
 ·rfl
 ·have e:cE (vN n)=de n:=rfl
  rw[e]
  by_cases hn:n < 0
  ·rw[uT hn,dk]
   unfold cV
   rw[if_neg (by simp),if_neg (by unfold im; simp),if_neg (by unfold g5; simp),if_neg (by simp),if_pos (by simp),NB (by omega)]
   congr 1
   simp only
   omega
  ·rw[show n=(n.toNat:Int) by omega,lc,dk]
   obtain⟨d1,d2,d3,d4,d5,d6⟩:=wX (u:=n.toNat)
   have hp:=NA (u:=n.toNat) (by omega)
   obtain⟨y,l,hy,hd⟩:=EI n.toNat
   rw[hy] at d1 d2 d3 d4 d5 d6 hp ⊢
   unfold cV
   rw[if_neg (by rw[fY]; simpa using d2),if_neg d6,if_neg d5,if_neg (by rw[fY]; simpa using d3),if_pos d1,hp]
 ·have e:lb (cE (vT s))=39 :: lb s:=by
   show lb ((⟨#[39]⟩:ByteArray)++s)=_
   rw[←fX s,show(⟨#[39]⟩:ByteArray)=ba [39] from rfl,mz,dk]
   simp
  rw[e]
  unfold cV
  rw[if_pos (by simp)]
  simp only[List.drop_succ_cons,List.drop_zero,fX]
 ·cases b <;> rfl
 ·have e:lb (cE (vE (n.val:Int)))=lb (cT (n.val:Int)):=rfl
  rw[e]
  have h1 : ∀ n:Fin 6,1≤n.val→([39]:ae).isPrefixOf (lb (cT (n.val:Int)))=false∧([35]:ae).isPrefixOf (lb (cT (n.val:Int)))=true∧lb (cT (n.val:Int))≠g5∧lb (cT (n.val:Int))≠im:=by decide +kernel
  obtain⟨a1,a2,a3,a4⟩:=h1 n h0
  unfold cV
  rw[if_neg (by rw[a1]; decide),if_neg a4,if_neg a3,if_pos a2,Hj n h0,if_neg (by omega)]
theorem wY {w:ae} {n:Int} (h0:0≤n) (h1:n≤5) {a b d e:Int} {c f:ByteArray}:gd (ba w) n a b c d e f=gd (ba w) (n+1) a b c (if cT n=ba w then 4 else d) (if cT n=ba w then n else e) (if cT n=ba w then eS else f):=by
 rw[tF,aD h1,rk h0 h1]
 simp only[Option.bind_some,jE,decide_eq_true_eq,uO]
 rw[wr (by omega) (by omega)]
 split <;> rfl
theorem F2 {α:Type} (w:ae) (f:Int→α) (z:α) (hz:z=f 0):(if cT 5=ba w then f 5 else if cT 4=ba w then f 4 else if cT 3=ba w then f 3 else if cT 2=ba w then f 2 else if cT 1=ba w then f 1 else z)=f (eN w):=by
 unfold eN
 subst hz
 repeat' split <;> first | rfl | skip
theorem T1 {w:ae}:gd (ba w) 1 0 0 eS 0 0 eS=some ((if aN (if eN w=0 then v0 else vE (eN w))=true∧cE (if eN w=0 then v0 else vE (eN w))=ba w then(if eN w=0 then v0 else vE (eN w)) else v0,decide (aN (if eN w=0 then v0 else vE (eN w))=true∧cE (if eN w=0 then v0 else vE (eN w))=ba w),()),()):=by
 rw[wY (by decide) (by decide),wY (by decide) (by decide),wY (by decide) (by decide),wY (by decide) (by decide),wY (by decide) (by decide),tF,av (by decide)]
 have e1:=F2 w (fun n=>if n=0 then(0:Int) else 4) 0 (by simp)
 have e2:=F2 w (fun n=>n) 0 rfl
 have e3:=F2 w (fun n=>eS) eS rfl
 simp only[show(1:Int)+1=2 from rfl,show(2:Int)+1=3 from rfl,show(3:Int)+1=4 from rfl,show(4:Int)+1=5 from rfl]
 simp only[show(5:Int)=0↔False by decide,show(4:Int)=0↔False by decide,show(3:Int)=0↔False by decide,show(2:Int)=0↔False by decide,show(1:Int)=0↔False by decide,if_false] at e1
 rw[e1,e2,e3]
 have e:((if eN w=0 then(0:Int) else 4),eN w,eS,())=(if eN w=0 then v0 else vE (eN w)):=by
  by_cases h:eN w=0
  ·rw[if_pos h,if_pos h,h]
   rfl
  ·rw[if_neg h,if_neg h]
   rfl
 rw[e]
 exact Bo (by split <;> (show eS.size≤_; decide))
theorem rp {w:ae} (hw:w.length≤281474976710656):jq (ba w)=some (((bq w).1,(bq w).2,()),()):=by
 obtain⟨p1,p2⟩:=Tk (w:=w) (fun v h1 h2=>by have:=Su h1; rw[h2,dk] at this; exact this)
 have aL : ∀ v:ay,cV w=v→(some ((if aN v=true∧cE v=ba w then v else v0,decide (aN v=true∧cE v=ba w),()),()):Option ((ay×Bool×Unit)×Unit))=some (((bq w).1,(bq w).2,()),()):=by
  rintro v rfl
  rw[p1,p2]
 have hv:=cV.eq_def w
 have e1:(ByteArray.toList (ba w) == ByteArray.toList (⟨#[84,82,85,69]⟩:ByteArray))=decide (w=g5):=cN (b:=g5)
 have e2:(ByteArray.toList (ba w) == ByteArray.toList (⟨#[70,65,76,83,69]⟩:ByteArray))=decide (w=im):=cN (b:=im)
 have e0:(ByteArray.toList (ba w) == ByteArray.toList (⟨#[]⟩:ByteArray))=decide (w=[]):=cN (b:=[])
 rw[H2,show(⟨#[39]⟩:ByteArray)=ba [39] from rfl,q9 w [39] (by omega),show(⟨#[35]⟩:ByteArray)=ba [35] from rfl,q8 w [35] (by omega),e0,e1,e2]
 simp only[Option.bind_some,Pk]
 cases h39:([39]:ae).isPrefixOf w with
 | true =>
  rw[if_pos h39] at hv
  simp only[if_true]
  refine(Bo (v:=vT (ba (w.drop 1))) ?_).trans (aL _ hv)
  show(ba _).size≤_
  rw[aq]
  simp
  omega
 | false =>
  rw[if_neg (by rw[h39]; decide)] at hv
  simp only[Bool.false_eq_true,if_false]
  by_cases hf:w=im
  ·rw[if_pos hf] at hv
   rw[aD hf]
   exact(Bo (v:=vB (decide (w=g5))) (by show eS.size≤_; decide)).trans (aL _ hv)
  ·rw[if_neg hf] at hv
   rw[av hf]
   by_cases ht:w=g5
   ·rw[if_pos ht] at hv
    rw[aD ht]
    exact(Bo (v:=vB (decide (w=g5))) (by show eS.size≤_; decide)).trans (aL _ hv)
   ·rw[if_neg ht] at hv
    rw[av ht]
    cases h35:([35]:ae).isPrefixOf w with
    | true =>
     rw[if_pos h35] at hv
     simp only[if_true]
     exact T1.trans (aL _ hv)
    | false =>
     rw[if_neg (by rw[h35]; decide)] at hv
     simp only[Bool.false_eq_true,if_false]
     by_cases he:w=[]
     ·rw[if_neg (by simpa using he)] at hv
      simp only[he,decide_true,Bool.not_true,Bool.false_eq_true,if_false]
      rw[he] at hv aL
      exact(Bo (v:=v0) (w:=[]) (by decide)).trans (aL _ hv)
     ·rw[if_pos he] at hv
      simp only[he,decide_false,Bool.not_false,if_true,vA hw,Option.bind_some,Ew]
      exact(Bo (v:=vN (b9 w).1) (by show eS.size≤_; decide)).trans (aL _ hv)
end Go.Proofs.YtddiiceaindlhaaGreatDoor.Abs
set_option linter.unusedVariables false
set_option linter.unusedSimpArgs false
set_option linter.unusedSectionVars false
namespace Go.Proofs.YtddiiceaindlhaaGreatDoor.Abs
open Go
def Ai (c:UInt8):Bool:=decide (c=32)
def bl (l:ae):ae:=l.dropWhile Ai
def aE (c:UInt8):Bool:=en c || cZ c || decide (c=36)
theorem Tl:(fun c=>([32]:ae).contains c)=Ai:=funext fun c=>o7 (p:=fun c=>([32]:ae).contains c=Ai c) (by decide +kernel) c
theorem Tm:(fun c=>([65,66,67,68,69,70,71,72,73,74,75,76,77,78,79,80,81,82,83,84,85,86,87,88,89,90,48,49,50,51,52,53,54,55,56,57,36]:ae).contains c)=aE:=funext fun c=>o7 (p:=fun c=>([65,66,67,68,69,70,71,72,73,74,75,76,77,78,79,80,81,82,83,84,85,86,87,88,89,90,48,49,50,51,52,53,54,55,56,57,36]:ae).contains c=aE c) (by decide +kernel) c
theorem EJ (p:UInt8→Bool) : ∀ l:ae,(l.dropWhile p).dropWhile p=l.dropWhile p
 | []=>rfl
 | c :: l=>by
  cases h:p c with
  | true=>rw[List.dropWhile_cons_of_pos h,EJ p l]
  | false =>
   have h' : ¬p c=true:=by rw[h]; decide
   rw[List.dropWhile_cons_of_neg h',List.dropWhile_cons_of_neg h']
theorem df (l:ae):bl (bl l)=bl l:=EJ _ _
theorem ao (l:ae):bl l <:+ l:=List.dropWhile_suffix _
theorem aA {a b:ae} (h:a <:+ b):a.length≤b.length:=h.length_le
theorem lX (l:ae) (b:Bool) (ns:List aa):gH (ba l) b ns=some ((),((ba (bl l),ns,b,()),())):=by
 rw[BK,show(⟨#[32]⟩:ByteArray)=ba [32] from rfl,vz _ _ (by decide +kernel),Tl]
 rfl
def RQ:List ae:=[[60,62],[60,61],[62,61],[60],[62],[61],[38],[43],[45],[42],[47],[40],[41],[44],[58]]
def sg (l:ae):ae:=(RQ.find? fun p=>p.isPrefixOf l).getD []
theorem EK {l:ae} {b:Bool} {ns:List aa} (hl:l.length≤1000) {X:List ByteArray} (hX:X.length≤100) : ∀(ys:List ae) (pre:List ByteArray),X=pre++ys.map (fun x=>ba x)→kn (X.length:Int) (pre.length:Int) (ba l) b X ns=some ((ba ((ys.find? fun p=>p.isPrefixOf l).getD []),()),((ba l,ns,b,()),()))
 | [],pre,h=>by
  rw[qY,av (bO (by simpa using h))]
  rfl
 | y :: ys,pre,h=>by
  have h':X=pre++ba y :: ys.map (fun x=>ba x):=by simpa using h
  have hd:List.getD X (Int.toNat (pre.length:Int)) (⟨#[]⟩:ByteArray)=ba y:=by rw[h']; exact fU
  rw[qY,aD (bP h'),fJ h',hd,q8 _ _ (by omega)]
  simp only[Option.bind_some,List.find?_cons]
  cases hy:y.isPrefixOf l with
  | true=>rfl
  | false =>
   simp only[Bool.false_eq_true,if_false]
   rw[aX h' (by omega)]
   exact EK hl hX ys (pre++[ba y]) (by rw[h']; simp)
theorem J3 {l:ae} {b:Bool} {ns:List aa} (hl:l.length≤1000):oA (ba l) b ns=some ((ba (sg (bl l)),()),((ba (bl l),ns,b,()),())):=by
 rw[Ei,lX]
 simp only[Option.bind_some]
 have:=aA (ao l)
 exact EK (by omega) (by decide) RQ [] rfl
theorem J4 (l:ae):(sg l).isPrefixOf l=true:=by
 unfold sg
 cases h:RQ.find? fun p=>p.isPrefixOf l with
 | none=>simp
 | some p =>
  have:=List.find?_some h
  simpa using this
theorem Bp {p l:ae} (h:p.isPrefixOf l=true):p.length≤l.length:=(List.isPrefixOf_iff_prefix.1 h).length_le
theorem cw {l w:ae} {b:Bool} {ns:List aa} (hl:l.length≤1000):aZ (ba w) (ba l) b ns=some ((decide (sg (bl l)=w),()),((ba (if sg (bl l)=w then(bl l).drop w.length else bl l),ns,b,()),())):=by
 rw[Ej,J3 hl]
 simp only[Option.bind_some,cN]
 by_cases h:sg (bl l)=w
 ·have:=Bp (J4 (bl l))
  rw[h] at this
  simp only[h,decide_true,Bool.not_true,Bool.false_eq_true,if_false,if_true,aq]
  rw[fq this]
 ·simp[h]
def gO (y:UInt8) (a b:Bool):Int:=if y=60 then(if a=true then 7 else if b=true then 9 else 8) else if y=62 then(if b=true then 11 else 10) else if y=61 then 6 else if y=38 then 5 else if y=43 then 1 else if y=45 then 2 else if y=42 then 3 else if y=47 then 4 else 0
def gS (y:UInt8) (a b:Bool):ae:=if y=60 then(if a=true then [60,62] else if b=true then [60,61] else [60]) else if y=62 then(if b=true then [62,61] else [62]) else if y=61 then [61] else if y=38 then [38] else if y=43 then [43] else if y=45 then [45] else if y=42 then [42] else if y=47 then [47] else if y=40 then [40] else if y=41 then [41] else if y=44 then [44] else if y=58 then [58] else []
def dH (l:ae):Int:=match l with
 | []=>0
 | y :: t=>gO y (decide (t.head? = some 62)) (decide (t.head? = some 61))
def c7 (k:Int):ae:=([[],[43],[45],[42],[47],[38],[61],[60,62],[60],[60,61],[62],[62,61]]:List ae).getD k.toNat []
theorem F3 (y:UInt8) (t:ae):sg (y :: t)=gS y (decide (t.head? = some 62)) (decide (t.head? = some 61)):=by
 unfold sg RQ
 simp only[List.find?_cons,List.find?_nil,fY,CY]
 generalize decide (t.head? = some 62)=a
 generalize decide (t.head? = some 61)=b
 have : ∀ a b:Bool,(Option.getD (match decide (y=60) && a with | true=>some [60,62] | false=>match decide (y=60) && b with | true=>some [60,61] | false=>match decide (y=62) && b with | true=>some [62,61] | false=>match decide (y=60) with | true=>some [60] | false=>match decide (y=62) with | true=>some [62] | false=>match decide (y=61) with | true=>some [61] | false=>match decide (y=38) with | true=>some [38] | false=>match decide (y=43) with | true=>some [43] | false=>match decide (y=45) with | true=>some [45] | false=>match decide (y=42) with | true=>some [42] | false=>match decide (y=47) with | true=>some [47] | false=>match decide (y=40) with | true=>some [40] | false=>match decide (y=41) with | true=>some [41] | false=>match decide (y=44) with | true=>some [44] | false=>match decide (y=58) with | true=>some [58] | false=>none) []:ae)=gS y a b :=
  o7 (p:=fun y => ∀ a b:Bool,(Option.getD (match decide (y=60) && a with | true=>some [60,62] | false=>match decide (y=60) && b with | true=>some [60,61] | false=>match decide (y=62) && b with | true=>some [62,61] | false=>match decide (y=60) with | true=>some [60] | false=>match decide (y=62) with | true=>some [62] | false=>match decide (y=61) with | true=>some [61] | false=>match decide (y=38) with | true=>some [38] | false=>match decide (y=43) with | true=>some [43] | false=>match decide (y=45) with | true=>some [45] | false=>match decide (y=42) with | true=>some [42] | false=>match decide (y=47) with | true=>some [47] | false=>match decide (y=40) with | true=>some [40] | false=>match decide (y=41) with | true=>some [41] | false=>match decide (y=44) with | true=>some [44] | false=>match decide (y=58) with | true=>some [58] | false=>none) []:ae)=gS y a b) (by decide +kernel) y
 exact this a b
theorem gp {c:UInt8} (hc:c=45∨c=40∨c=41∨c=44∨c=58) (l:ae):(sg l=[c])=(l.head? = some c):=by
 apply propext
 constructor
 ·intro h
  have:=J4 l
  rw[h,CX] at this
  exact of_decide_eq_true this
 ·intro h
  cases l with
  | nil=>cases h
  | cons y t =>
   simp only[List.head?_cons,Option.some.injEq] at h
   subst h
   rw[F3]
   rcases hc with rfl | rfl | rfl | rfl | rfl <;> rfl
def Tn (s:ae):Int:=if c7 11=s then 11 else if c7 10=s then 10 else if c7 9=s then 9 else if c7 8=s then 8 else if c7 7=s then 7 else if c7 6=s then 6 else if c7 5=s then 5 else if c7 4=s then 4 else if c7 3=s then 3 else if c7 2=s then 2 else if c7 1=s then 1 else 0
theorem J5 (y:UInt8) : ∀ a b:Bool,Tn (gS y a b)=gO y a b∧(gO y a b≠0→gS y a b=c7 (gO y a b))∧0≤gO y a b∧gO y a b≤11 :=
 o7 (p:=fun y => ∀ a b:Bool,Tn (gS y a b)=gO y a b∧(gO y a b≠0→gS y a b=c7 (gO y a b))∧0≤gO y a b∧gO y a b≤11) (by decide +kernel) y
theorem To (l:ae):Tn (sg l)=dH l:=by
 cases l with
 | nil=>decide
 | cons y t =>
  rw[F3]
  exact(J5 y _ _).1
theorem pZ {l:ae} (h:dH l≠0):sg l=c7 (dH l):=by
 cases l with
 | nil=>exact absurd rfl h
 | cons y t =>
  rw[F3]
  exact(J5 y _ _).2.1 h
theorem ld (l:ae):0≤dH l∧dH l≤11:=by
 cases l with
 | nil=>decide
 | cons y t=>exact(J5 y _ _).2.2
theorem yf {k:Int} (h0:0≤k) (h1:k≤11):wB k=some ((ba (c7 k),()),()):=by
 rw[Nh,iZ h0 (by show k < 12; omega)]
 have : ∀ k:Fin 12,List.getD ([(⟨#[]⟩:ByteArray),(⟨#[43]⟩:ByteArray),(⟨#[45]⟩:ByteArray),(⟨#[42]⟩:ByteArray),(⟨#[47]⟩:ByteArray),(⟨#[38]⟩:ByteArray),(⟨#[61]⟩:ByteArray),(⟨#[60,62]⟩:ByteArray),(⟨#[60]⟩:ByteArray),(⟨#[60,61]⟩:ByteArray),(⟨#[62]⟩:ByteArray),(⟨#[62,61]⟩:ByteArray)]:(List ByteArray)) k.val (⟨#[]⟩:ByteArray)=ba (c7 (k.val:Int)):=by decide +kernel
 have h:=this ⟨k.toNat,by omega⟩
 simp only[Int.toNat_of_nonneg h0] at h
 rw[h]
theorem yg {k:Int} (h0:0≤k) (h1:k≤11):wu k=some ((ba (c7 k),()),()):=by
 rw[M2,iZ h0 (by show k < 12; omega)]
 have : ∀ k:Fin 12,List.getD ([(⟨#[]⟩:ByteArray),(⟨#[43]⟩:ByteArray),(⟨#[45]⟩:ByteArray),(⟨#[42]⟩:ByteArray),(⟨#[47]⟩:ByteArray),(⟨#[38]⟩:ByteArray),(⟨#[61]⟩:ByteArray),(⟨#[60,62]⟩:ByteArray),(⟨#[60]⟩:ByteArray),(⟨#[60,61]⟩:ByteArray),(⟨#[62]⟩:ByteArray),(⟨#[62,61]⟩:ByteArray)]:(List ByteArray)) k.val (⟨#[]⟩:ByteArray)=ba (c7 (k.val:Int)):=by decide +kernel
 have h:=this ⟨k.toNat,by omega⟩
 simp only[Int.toNat_of_nonneg h0] at h
 rw[h]
theorem Hk {least deep left op k:Int} {l:ae} {b:Bool} {ns:List aa} (hl:l.length≤1000) (h0:0≤k) (h1:k≤11) :
  cj least deep left op k (ba l) b ns=cj least deep left (if c7 k=sg (bl l) then k else op) (k+1) (ba (bl l)) b ns:=by
 rw[o0,aD h1,J3 hl]
 simp only[Option.bind_some]
 rw[yf h0 h1]
 simp only[Option.bind_some,cN,decide_eq_true_eq]
 rw[wr (by omega) (by omega)]
 by_cases h:sg (bl l)=c7 k
 ·rw[if_pos h,if_pos h.symm]
 ·rw[if_neg h,if_neg (Ne.symm h)]
theorem tN {least deep left:Int} {l:ae} {b:Bool} {ns:List aa} (hl:l.length≤1000) :
  cj least deep left 0 1 (ba l) b ns=cj least deep left (dH (bl l)) 12 (ba (bl l)) b ns:=by
 have:=aA (ao l)
 have st : ∀(op k:Int),0≤k→k≤11→cj least deep left op k (ba (bl l)) b ns=cj least deep left (if c7 k=sg (bl l) then k else op) (k+1) (ba (bl l)) b ns:=by
  intro op k h0 h1
  rw[Hk (by omega) h0 h1,df]
 rw[Hk hl (by decide) (by decide),st _ (1+1) (by decide) (by decide),st _ (1+1+1) (by decide) (by decide),st _ (1+1+1+1) (by decide) (by decide),st _ (1+1+1+1+1) (by decide) (by decide),st _ (1+1+1+1+1+1) (by decide) (by decide),
  st _ (1+1+1+1+1+1+1) (by decide) (by decide),st _ (1+1+1+1+1+1+1+1) (by decide) (by decide),st _ (1+1+1+1+1+1+1+1+1) (by decide) (by decide),st _ (1+1+1+1+1+1+1+1+1+1) (by decide) (by decide),st _ (1+1+1+1+1+1+1+1+1+1+1) (by decide) (by decide)]
 rw[←To (bl l)]
 rfl
def bD (s l:ae):Int:=(s.length:Int) - (l.length:Int)
theorem nd {s l:ae} (h:l <:+ s) : ∃ pre,s=pre++l∧bD s l=(pre.length:Int):=by
 obtain⟨pre,h⟩:=h
 refine⟨pre,h.symm,?_⟩
 unfold bD
 rw[←h,List.length_append]
 omega
theorem EL {s:ae} {b:Bool} {ns:List aa} (hs:s.length≤1000) : ∀(l:ae),l <:+ s→km (ba s) (bD s l) b ns=some ((),((ba s,bD s (bl l),b,ns,()),()))
 | [],h=>by
  rw[qX,av (by rw[aq]; unfold bD; simp)]
  rfl
 | c :: l,h=>by
  obtain⟨pre,h1,h2⟩:=nd h
  have hl:pre.length < s.length:=by rw[h1]; simp
  rw[qX,h2,aD (by rw[aq]; omega),jQ h1]
  by_cases hc:c=32
  ·subst hc
   have hl':l <:+ s:=List.IsSuffix.trans (List.suffix_cons _ _) h
   rw[if_pos (by rfl),wr (by omega) (by omega)]
   have e:(pre.length:Int)+1=bD s l:=by
    rw[←h2]
    unfold bD
    rw[List.length_cons]
    omega
   rw[e,EL hs l hl']
   rfl
  ·have h0' : ¬((c.toNat:Int) == 32)=true:=by
    simp only[beq_iff_eq]
    intro e
    apply hc
    apply UInt8.toNat_inj.1
    show c.toNat=32
    omega
   rw[if_neg h0',←h2]
   have:bl (c :: l)=c :: l:=List.dropWhile_cons_of_neg (by simp[Ai,hc])
   rw[this]
theorem J6 {s l:ae} {b:Bool} {ns:List aa} (hs:s.length≤1000) (h:l <:+ s):iT (ba s) (bD s l) b ns=some ((),((ba s,bD s (bl l),b,ns,()),())):=by
 rw[Ef]
 exact EL hs l h
theorem af {a b c:ae} (h:a <:+ b) (k:b <:+ c):a <:+ c:=List.IsSuffix.trans h k
theorem fx (n:Nat) (l:ae):l.drop n <:+ l:=List.drop_suffix n l
theorem gX {s l w:ae} {b:Bool} {ns:List aa} (hs:s.length≤1000) (hw:w.length≤1000) (h:l <:+ s) :
  dB (ba w) (ba s) (bD s l) b ns=some (((!b && w.isPrefixOf (bl l)),()),((ba s,bD s (if(!b && w.isPrefixOf (bl l))=true then(bl l).drop w.length else bl l),b,ns,()),())):=by
 have hb:=af (ao l) h
 rw[KU,J6 hs h]
 simp only[Option.bind_some]
 cases b with
 | true=>rfl
 | false =>
  simp only[Bool.false_eq_true,if_false,Bool.not_false,Bool.true_and,aq]
  generalize bl l=m at hb
  obtain⟨pre,h1,h2⟩:=nd hb
  have hl:pre.length+m.length=s.length:=by rw[h1]; simp
  rw[h2,wr (by omega) (by omega)]
  by_cases hm:w.length≤m.length
  ·rw[av (by omega),show(pre.length:Int)+(w.length:Int)=((pre.length+w.length:Nat):Int) by omega,wW (by omega) (by omega),cN]
   have e:(s.take (pre.length+w.length)).drop pre.length=m.take w.length:=by
    rw[h1,List.take_append,List.drop_append]
    simp
   rw[e]
   have e2:decide (m.take w.length=w)=w.isPrefixOf m:=by
    rw[Bool.eq_iff_iff,decide_eq_true_eq,List.isPrefixOf_iff_prefix,List.prefix_iff_eq_take]
    exact eq_comm
   rw[e2]
   cases w.isPrefixOf m with
   | true =>
    simp only[Bool.not_true,Bool.false_eq_true,if_false,if_true]
    have e5:((pre.length+w.length:Nat):Int)=bD s (m.drop w.length):=by
     unfold bD
     rw[List.length_drop]
     omega
    rw[e5]
   | false =>
    simp only[Bool.not_false,if_true,Bool.false_eq_true,if_false]
    rw[h2]
  ·rw[aD (by omega)]
   have e2:w.isPrefixOf m=false:=by
    rw[Bool.eq_false_iff]
    intro hp
    exact hm (Bp hp)
   rw[e2]
   simp only[Bool.false_eq_true,if_false]
   rw[h2]
theorem yh {l:ae} {b:Bool} {ns:List aa} (hl:l.length≤1000):iV (ba l) b ns=some ((ba ((bl l).takeWhile aE),()),((ba ((bl l).dropWhile aE),ns,b,()),())):=by
 have:=aA (ao l)
 obtain⟨d1,d2,d3⟩:=Ae aE (bl l)
 rw[Ek,lX]
 simp only[Option.bind_some]
 rw[vz _ _ (by decide +kernel),Tm]
 simp only[Option.bind_some,aq]
 rw[wr (by omega) (by omega),show((bl l).length:Int) - (((bl l).dropWhile aE).length:Int)=(((bl l).length - ((bl l).dropWhile aE).length:Nat):Int) by omega,EF (by omega),fq (by omega),d1,d2]
theorem Hl {s pre l:ae} {w:Nat} {b:Bool} {ns:List aa} (h:s=pre++l) (hw:w≤pre.length) :
  (ui (ba s) (w:Int) (pre.length:Int) fun y6=>(some ((y6,()),((ba s,(pre.length:Int),b,ns,()),()))))=(some ((ba (pre.drop w),()),((ba s,bD s l,b,ns,()),())):Option ((ByteArray×Unit)×(jW×Unit))):=by
 have hl:pre.length+l.length=s.length:=by rw[h]; simp
 rw[wW hw (by omega)]
 congr 3
 ·congr 1
  rw[h,List.take_left' rfl]
 ·unfold bD
  congr 3
  omega
theorem EM {s:ae} {b:Bool} {ns:List aa} (hs:s.length≤1000) {w:Nat} : ∀(l pre:ae),s=pre++l→w≤pre.length→dF (w:Int) (ba s) (pre.length:Int) b ns=some ((ba (pre.drop w++l.takeWhile aE),()),((ba s,bD s (l.dropWhile aE),b,ns,()),()))
 | [],pre,h,hw=>by
  have hl:pre.length=s.length:=by rw[h]; simp
  rw[tw,av (by rw[aq]; omega)]
  simpa using Hl (b:=b) (ns:=ns) h hw
 | y :: l,pre,h,hw=>by
  have hl:pre.length < s.length:=by rw[h]; simp
  have ih:=EM (b:=b) (ns:=ns) hs (w:=w) l (pre++[y]) (by rw[h]; simp) (by rw[List.length_append]; omega)
  rw[show((pre++[y]).length:Int)=(pre.length:Int)+1 by simp,List.drop_append_of_le_length hw] at ih
  have he:=Hl (b:=b) (ns:=ns) h hw
  rw[tw,aD (by rw[aq]; omega)]
  simp only[jQ h]
  rw[wr (by omega) (by omega)]
  have h36:((y.toNat:Int) == 36)=decide (y=36):=by
   rw[Bool.eq_iff_iff,beq_iff_eq,decide_eq_true_eq]
   constructor
   ·intro e
    apply UInt8.toNat_inj.1
    show y.toNat=36
    omega
   ·rintro rfl
    rfl
  rw[h36]
  cases hy:aE y with
  | true =>
   have e1:(y :: l).takeWhile aE=y :: l.takeWhile aE:=List.takeWhile_cons_of_pos hy
   have e2:(y :: l).dropWhile aE=l.dropWhile aE:=List.dropWhile_cons_of_pos hy
   rw[e1,e2]
   have e3:pre.drop w++y :: l.takeWhile aE=pre.drop w++[y]++l.takeWhile aE:=by simp
   rw[e3,←ih]
   simp only[aE,en,cZ,Bool.or_eq_true,Bool.and_eq_true,decide_eq_true_eq] at hy
   by_cases c1:65≤y.toNat
   ·rw[aD (by omega)]
    by_cases c2:y.toNat≤90
    ·rw[aD (by omega)]
    ·rw[av (by omega),aD (by omega),av (by omega)]
     exfalso
     rcases hy with(hy | hy) | rfl
     ·omega
     ·omega
     ·exact absurd c1 (by decide)
   ·rw[av (by omega)]
    by_cases c3:48≤y.toNat
    ·rw[aD (by omega)]
     by_cases c4:y.toNat≤57
     ·rw[aD (by omega)]
     ·rw[av (by omega)]
      exfalso
      rcases hy with(hy | hy) | rfl
      ·omega
      ·omega
      ·exact absurd c3 (by decide)
    ·rw[av (by omega)]
     have:y=36:=by
      rcases hy with(hy | hy) | hy
      ·omega
      ·omega
      ·exact hy
     rw[aD this]
  | false =>
   have e1:(y :: l).takeWhile aE=[]:=List.takeWhile_cons_of_neg (by rw[hy]; decide)
   have e2:(y :: l).dropWhile aE=y :: l:=List.dropWhile_cons_of_neg (by rw[hy]; decide)
   rw[e1,e2,List.append_nil,←he]
   simp only[aE,en,cZ,Bool.or_eq_false_iff,Bool.and_eq_false_iff,decide_eq_false_iff_not] at hy
   obtain⟨⟨k1,k2⟩,k3⟩:=hy
   by_cases c1:65≤y.toNat
   ·rw[aD (by omega),av (by omega),aD (by omega),av (by omega),av k3]
   ·rw[av (by omega)]
    by_cases c3:48≤y.toNat
    ·rw[aD (by omega),av (by omega),av k3]
    ·rw[av (by omega),av k3]
theorem C2 {s l:ae} {b:Bool} {ns:List aa} (hs:s.length≤1000) (h:l <:+ s):lB (ba s) (bD s l) b ns=some ((ba (l.takeWhile aE),()),((ba s,bD s (l.dropWhile aE),b,ns,()),())):=by
 obtain⟨pre,h1,h2⟩:=nd h
 rw[HQ,h2,EM hs l pre h1 (Nat.le_refl _)]
 simp
end Go.Proofs.YtddiiceaindlhaaGreatDoor.Abs
set_option linter.unusedVariables false
set_option linter.unusedSimpArgs false
set_option linter.unusedSectionVars false
namespace Go.Proofs.YtddiiceaindlhaaGreatDoor.Abs
open Go
def cd (k:Int):Int:=if k≥6 then 1 else if k=5 then 2 else if k≥3 then 4 else 3
theorem vC (k:Int):s7 k=some ((cd k,()),()):=by
 rw[KZ]
 unfold cd
 simp only[decide_eq_true_eq,beq_iff_eq]
 repeat' split
 all_goals first | rfl | omega
theorem Hm {k:Int} (h0:1≤k) (h1:k≤11):zI k=some ((cd k,()),()):=by
 rw[Pc]
 unfold cd
 simp only[beq_iff_eq]
 repeat' split
 all_goals first | rfl | omega
abbrev tO:List Int:=[7,9,11,6,8,10,1,2,3,4,5]
def yS (L:Int) (m:ae) (k:Int):Bool:=decide (cd k=L) && (c7 k).isPrefixOf m
theorem Bq (k:Int):(c7 k).length≤2:=by
 unfold c7
 have : ∀ i:Nat,(([[],[43],[45],[42],[47],[38],[61],[60,62],[60],[60,61],[62],[62,61]]:List ae).getD i []).length≤2:=by
  intro i
  by_cases hi:i < 12
  ·have h : ∀ j:Fin 12,(([[],[43],[45],[42],[47],[38],[61],[60,62],[60],[60,61],[62],[62,61]]:List ae).getD j.val []).length≤2:=by decide
   exact h ⟨i,hi⟩
  ·rw[List.getD_eq_getElem?_getD,List.getElem?_eq_none (by simp; omega)]
   simp
 exact this _
section
variable {s:ae} {ns:List aa} {L:Int}
def yi (s l l':ae) (ns:List aa):Option Int→Option ((Int×Unit)×(jW×Unit))
 | some k=>some ((k,()),((ba s,bD s ((bl l).drop (c7 k).length),false,ns,()),()))
 | none=>some ((0,()),((ba s,bD s l',false,ns,()),()))
theorem Tp {pre ys:List Int} {k:Int} (h:tO=pre++k :: ys):List.getD tO (Int.toNat (pre.length:Int)) 0=k:=by rw[h]; exact fU
theorem Hn {k:Int} (h:k∈tO):1≤k∧k≤11:=by
 have : ∀ k∈tO,1≤k∧k≤11:=by decide
 exact this k h
theorem Aj (hs:s.length≤1000) : ∀(ys pre:List Int) (l:ae),tO=pre++ys→l <:+ s → ∃ l',(l'=l∨l'=bl l)∧k8 L (pre.length:Int) (ba s) (bD s l) false tO ns=yi s l l' ns (ys.find? (yS L (bl l)))
 | [],pre,l,h,hl=>by
  refine⟨l,.inl rfl,?_⟩
  rw[uN,av (bO h)]
  rfl
 | k :: ys,pre,l,h,hl=>by
  have hk:=Hn (k:=k) (by rw[h]; simp)
  rw[uN,aD (bP h),fJ h,Tp h,vC]
  simp only[Option.bind_some,List.find?_cons,beq_iff_eq]
  by_cases hL:cd k=L
  ·rw[if_pos hL,fJ h,yg (by omega) (by omega)]
   simp only[Option.bind_some]
   have:=Bq k
   rw[gX hs (by omega) hl]
   simp only[Option.bind_some,Bool.not_false,Bool.true_and]
   cases hp:(c7 k).isPrefixOf (bl l) with
   | true =>
    simp only[if_true,yS,hL,decide_true,Bool.true_and,hp]
    rw[fJ h]
    exact⟨l,.inl rfl,rfl⟩
   | false =>
    simp only[Bool.false_eq_true,if_false,yS,hL,decide_true,Bool.true_and,hp]
    rw[aX h (by decide)]
    obtain⟨l',h1,h2⟩:=Aj hs ys (pre++[k]) (bl l) (aK h) (af (ao l) hl)
    rw[df] at h1 h2
    refine⟨l',.inr (by simpa using h1),?_⟩
    rw[h2]
    unfold yi
    rw[df]
  ·rw[if_neg hL,aX h (by decide)]
   obtain⟨l',h1,h2⟩:=Aj hs ys (pre++[k]) l (aK h) hl
   refine⟨l',h1,?_⟩
   rw[h2]
   simp[yS,hL]
theorem J7 (hs:s.length≤1000) : ∀(ys pre:List Int) (l:ae),tO=pre++ys→l <:+ s → ∃ l',(l'=l∨l'=bl l)∧qv L (pre.length:Int) (ba s) (bD s l) false ns tO=yi s l l' ns (ys.find? (yS L (bl l)))
 | [],pre,l,h,hl=>by
  refine⟨l,.inl rfl,?_⟩
  rw[wL,av (bO h)]
  rfl
 | k :: ys,pre,l,h,hl=>by
  have hk:=Hn (k:=k) (by rw[h]; simp)
  rw[wL,aD (bP h),fJ h,Tp h,vC]
  simp only[Option.bind_some,List.find?_cons,beq_iff_eq]
  by_cases hL:cd k=L
  ·rw[if_pos hL,fJ h,yg (by omega) (by omega)]
   simp only[Option.bind_some]
   have:=Bq k
   rw[gX hs (by omega) hl]
   simp only[Option.bind_some,Bool.not_false,Bool.true_and]
   cases hp:(c7 k).isPrefixOf (bl l) with
   | true =>
    simp only[if_true,yS,hL,decide_true,Bool.true_and,hp]
    rw[fJ h]
    exact⟨l,.inl rfl,rfl⟩
   | false =>
    simp only[Bool.false_eq_true,if_false,yS,hL,decide_true,Bool.true_and,hp]
    rw[aX h (by decide)]
    obtain⟨l',h1,h2⟩:=Aj (L:=L) (ns:=ns) hs ys (pre++[k]) (bl l) (aK h) (af (ao l) hl)
    rw[df] at h1 h2
    refine⟨l',.inr (by simpa using h1),?_⟩
    rw[h2]
    unfold yi
    rw[df]
  ·rw[if_neg hL,aX h (by decide)]
   obtain⟨l',h1,h2⟩:=J7 hs ys (pre++[k]) l (aK h) hl
   refine⟨l',h1,?_⟩
   rw[h2]
   simp[yS,hL]
end
theorem EN {α:Type} {p q:α→Bool} : ∀ {l:List α},(∀ x∈l,p x=q x)→l.find? p=l.find? q
 | [],_=>rfl
 | x :: l,h=>by
  rw[List.find?_cons,List.find?_cons,h x (by simp),EN (fun y hy=>h y (List.mem_cons_of_mem _ hy))]
def pS (k:Int) (y:UInt8) (a b:Bool):Bool:=if k=7 then decide (y=60) && a else if k=9 then decide (y=60) && b else if k=11 then decide (y=62) && b else if k=6 then decide (y=61) else if k=8 then decide (y=60) else if k=10 then decide (y=62) else if k=1 then decide (y=43) else if k=2 then decide (y=45) else if k=3 then decide (y=42) else if k=4 then decide (y=47) else decide (y=38)
theorem T2 (y:UInt8) (t:ae) : ∀ k∈tO,(c7 k).isPrefixOf (y :: t)=pS k y (decide (t.head? = some 62)) (decide (t.head? = some 61)):=by
 intro k hk
 have:k=7∨k=9∨k=11∨k=6∨k=8∨k=10∨k=1∨k=2∨k=3∨k=4∨k=5:=by simpa using hk
 rcases this with rfl | rfl | rfl | rfl | rfl | rfl | rfl | rfl | rfl | rfl | rfl
 ·exact CY y t 60 62
 ·exact CY y t 60 61
 ·exact CY y t 62 61
 ·exact fY y t 61
 ·exact fY y t 60
 ·exact fY y t 62
 ·exact fY y t 43
 ·exact fY y t 45
 ·exact fY y t 42
 ·exact fY y t 47
 ·exact fY y t 38
def fS (L:Int) (y:UInt8) (a b:Bool):Prop:=tO.find? (fun k=>decide (cd k=L) && pS k y a b)=if gO y a b≠0∧cd (gO y a b)=L then some (gO y a b) else none
instance (L:Int) (y:UInt8) (a b:Bool):Decidable (fS L y a b):=by unfold fS; infer_instance
theorem Tq (y:UInt8) : ∀ a b:Bool,fS 1 y a b∧fS 2 y a b∧fS 3 y a b∧fS 4 y a b :=
 o7 (p:=fun y => ∀ a b:Bool,fS 1 y a b∧fS 2 y a b∧fS 3 y a b∧fS 4 y a b) (by decide +kernel) y
theorem Q5 {L:Int} (hL:L=1∨L=2∨L=3∨L=4) (m:ae):tO.find? (yS L m)=if dH m≠0∧cd (dH m)=L then some (dH m) else none:=by
 cases m with
 | nil =>
  have : ∀ k∈tO,(c7 k).isPrefixOf ([]:ae)=false:=by decide
  have h0:dH ([]:ae)=0:=rfl
  rw[h0,if_neg (by simp),List.find?_eq_none]
  intro k hk
  unfold yS
  rw[this k hk,Bool.and_false]
  decide
 | cons y t =>
  have e:tO.find? (yS L (y :: t))=tO.find? (fun k=>decide (cd k=L) && pS k y (decide (t.head? = some 62)) (decide (t.head? = some 61))):=EN fun k hk=>by
   unfold yS
   rw[T2 y t k hk]
  rw[e]
  obtain⟨h1,h2,h3,h4⟩:=Tq y (decide (t.head? = some 62)) (decide (t.head? = some 61))
  rcases hL with rfl | rfl | rfl | rfl
  ·exact h1
  ·exact h2
  ·exact h3
  ·exact h4
theorem Ts {s l:ae} {ns:List aa} {L:Int} (hs:s.length≤1000) (hL:L=1∨L=2∨L=3∨L=4) (h:l <:+ s) :
  ∃ l',(l'=l∨l'=bl l)∧CJ L (ba s) (bD s l) false ns=yi s l l' ns (if dH (bl l)≠0∧cd (dH (bl l))=L then some (dH (bl l)) else none):=by
 rw[K0,←Q5 hL]
 exact J7 hs tO [] l rfl h
theorem wZ {x:aa} {l:ae} {b:Bool} {ns:List aa} (hn:ns.length≤60) :
  ∃ i,az x (ba l) b ns=some ((i,()),((ba l,(if b=false∧ns.length < 60 then ns++[x] else ns),(b || decide (60≤ns.length)),()),()))∧(b=false→ns.length < 60→i=(ns.length:Int)):=by
 rw[FM]
 cases b with
 | true=>exact⟨_,rfl,fun h=>by cases h⟩
 | false =>
  simp only[Bool.false_eq_true,if_false,true_and,Bool.false_or]
  by_cases h:ns.length < 60
  ·have e1:decide ((ns.length:Int)≥60)=false:=decide_eq_false (by omega)
   have e2:decide (60≤ns.length)=false:=decide_eq_false (by omega)
   rw[e1,e2,if_pos h]
   simp only[Bool.not_false,if_true]
   have hl:(ns++[x]).length=ns.length+1:=by simp
   rw[bo (by simp only[List.length_singleton]; omega),wr (by omega) (by omega)]
   exact⟨_,rfl,fun _ _=>by omega⟩
  ·have e1:decide ((ns.length:Int)≥60)=true:=decide_eq_true (by omega)
   have e2:decide (60≤ns.length)=true:=decide_eq_true (by omega)
   rw[e1,e2,if_neg h]
   exact⟨_,rfl,fun _ h'=>absurd h' h⟩
theorem F4 {x:aa} {s:ae} {a:Int} {b:Bool} {ns:List aa} (hn:ns.length≤1000) (hx:x.2.2.1.2.2.1.size≤9223372036854775807) :
  bX x (ba s) a b ns=some (((ns.length:Int),()),((ba s,a,(b || decide (60≤ns.length) || !bG x),ns++[x],()),())):=by
 rw[JB,bo (by simp only[List.length_singleton]; omega)]
 have e:IntKind.i64.wrap (((ns++[x]).length:Int) - 1)=(ns.length:Int):=by
  rw[List.length_append,List.length_singleton,wr (by omega) (by omega)]
  omega
 rw[e,fK hx]
 simp only[Option.bind_some]
 by_cases h:60≤ns.length
 ·rw[aD (by rw[List.length_append,List.length_singleton]; omega)]
  simp[h]
 ·rw[av (by rw[List.length_append,List.length_singleton]; omega)]
  cases bG x <;> simp[h]
end Go.Proofs.YtddiiceaindlhaaGreatDoor.Abs
set_option linter.unusedVariables false
set_option linter.unusedSimpArgs false
set_option linter.unusedSectionVars false
namespace Go.Proofs.YtddiiceaindlhaaGreatDoor.Abs
open Go
theorem F5 (c:UInt8) (t:ae) : ∀ pre:ae,c ∉ pre→Lib.indexByte (pre++c :: t) c=(pre.length:Int)
 | [],_=>by simp[Lib.indexByte]
 | b :: pre,h=>by
  simp only[List.mem_cons,not_or] at h
  have hb : ¬b=c:=fun e=>h.1 e.symm
  have ih:=F5 c t pre h.2
  simp only[List.cons_append,Lib.indexByte,ih]
  have : ¬((pre.length:Int) = -1):=by omega
  simp[hb,this]
theorem J8 (c:UInt8) : ∀ pre:ae,c ∉ pre→Lib.indexByte pre c = -1
 | [],_=>rfl
 | b :: pre,h=>by
  simp only[List.mem_cons,not_or] at h
  have hb : ¬b=c:=fun e=>h.1 e.symm
  simp only[Lib.indexByte,J8 c pre h.2]
  simp[hb]
theorem Sv {c:UInt8} {pre t:ae} (h:c ∉ pre):Lib.cut (pre++c :: t) [c]=(pre,t,true):=by
 unfold Lib.cut
 rw[Lib.index_one,F5 c t pre h,if_pos (by omega)]
 simp only[Int.toNat_natCast,List.length_singleton,Prod.mk.injEq,and_true]
 refine⟨List.take_left' rfl,?_⟩
 have:pre++c :: t=(pre++[c])++t:=by simp
 rw[this,List.drop_left' (by simp)]
theorem Q6 {c:UInt8} {s:ae} (h:c ∉ s):Lib.cut s [c]=(s,[],false):=by
 unfold Lib.cut
 rw[Lib.index_one,J8 c s h,if_neg (by omega)]
theorem Sw {x c:ae} (hx:x.length < 4294967281):strings_Cut (ba x) (ba c)=some ((ba (Lib.cut x c).1,ba (Lib.cut x c).2.1,(Lib.cut x c).2.2,()),()):=by
 rw[FN]
 show(if(ba x).size < 4294967281 then some (((⟨(Lib.cut (lb (ba x)) (lb (ba c))).1.toArray⟩:ByteArray),(⟨(Lib.cut (lb (ba x)) (lb (ba c))).2.1.toArray⟩:ByteArray),(Lib.cut (lb (ba x)) (lb (ba c))).2.2,()),()) else none)=_
 rw[if_pos (by rw[aq]; exact hx),dk,dk]
theorem C3 (c:UInt8) : ∀ s:ae,c∈s → ∃ pre t,s=pre++c :: t∧c ∉ pre
 | b :: s,h=>by
  by_cases hb:b=c
  ·exact⟨[],s,by rw[hb]; rfl,by simp⟩
  ·obtain⟨pre,t,h1,h2⟩:=C3 c s (by rcases List.mem_cons.1 h with e | e; exact absurd e.symm hb; exact e)
   exact⟨b :: pre,t,by rw[h1]; rfl,by simp only[List.mem_cons,not_or]; exact⟨Ne.symm hb,h2⟩⟩
def qt:ae→Option (ae×ae)
 | []=>none
 | c :: l=>if c=34 then(match l with
   | []=>some ([],[])
   | d :: l'=>if d=34 then(qt l').map (fun p=>(34 :: p.1,p.2)) else some ([],d :: l'))
  else(qt l).map fun p=>(c :: p.1,p.2)
theorem yj {c:UInt8} {l:ae} (h:c≠34):qt (c :: l)=(qt l).map fun p=>(c :: p.1,p.2):=by
 rw[qt.eq_def]
 simp only[if_neg h]
theorem EO:qt [34]=some ([],[]):=by
 rw[qt.eq_def]
 rfl
theorem EP {l:ae}:qt (34 :: 34 :: l)=(qt l).map fun p=>(34 :: p.1,p.2):=by
 rw[qt.eq_def]
 rfl
theorem Br {d:UInt8} {l:ae} (h:d≠34):qt (34 :: d :: l)=some ([],d :: l):=by
 rw[qt.eq_def]
 simp only[if_true,if_neg h]
theorem J9 (l:ae) : ∀ pre:ae,(34:UInt8) ∉ pre→qt (pre++l)=(qt l).map fun p=>(pre++p.1,p.2)
 | [],_=>by simp
 | b :: pre,h=>by
  simp only[List.mem_cons,not_or] at h
  have hb : ¬b=34:=fun e=>h.1 e.symm
  rw[List.cons_append,yj hb,J9 l pre h.2,Option.map_map]
  rfl
theorem Sx {s:ae} (h:(34:UInt8) ∉ s):qt s=none:=by
 have:=J9 [] s h
 rw[List.append_nil] at this
 rw[this]
 rfl
theorem Px : ∀(l t r:ae),qt l=some (t,r)→r <:+ l∧t.length≤l.length∧r.length < l.length:=by
 intro l
 induction hn:l.length using Nat.strongRecOn generalizing l with
 | ind n ih =>
  intro t r h
  subst hn
  cases l with
  | nil=>cases h
  | cons c l =>
   by_cases hc:c=34
   ·subst hc
    cases l with
    | nil =>
     rw[EO] at h
     cases h
     exact⟨⟨[34],rfl⟩,by simp,by simp⟩
    | cons d l' =>
     by_cases hd:d=34
     ·subst hd
      rw[EP,Option.map_eq_some_iff] at h
      obtain⟨⟨t',r'⟩,h1,h2⟩:=h
      cases h2
      obtain⟨k1,k2,k3⟩:=ih l'.length (by simp only[List.length_cons]; omega) l' rfl t' r' h1
      refine⟨af k1 ⟨[34,34],rfl⟩,?_,?_⟩
      ·simp only[List.length_cons]; omega
      ·simp only[List.length_cons]; omega
     ·rw[Br hd] at h
      cases h
      exact⟨⟨[34],rfl⟩,by simp,by simp⟩
   ·rw[yj hc,Option.map_eq_some_iff] at h
    obtain⟨⟨t',r'⟩,h1,h2⟩:=h
    cases h2
    obtain⟨k1,k2,k3⟩:=ih l.length (by simp) l rfl t' r' h1
    refine⟨af k1 ⟨[c],rfl⟩,?_,?_⟩
    ·simp only[List.length_cons]; omega
    ·simp only[List.length_cons]; omega
abbrev nC (v:ay):aa:=(1,0,v,((0,0,()),false,false,()),((0,0,()),false,false,()),([]:(List Int)),())
noncomputable def iQ (out:ae) (r:ByteArray) (b:Bool) (ns:List aa):Option (ae×ae)→Option ((Int×Unit)×(pG×Unit))
 | none=>some ((-1,()),((r,ns,true,()),()))
 | some p=>bA (2,0,ba (out++p.1),()) (ba p.2) b ns
theorem Bs {F:Option ((Int×Unit)×(pG×Unit))}:(F.bind fun z3=>(some ((z3.1.1,()),(z3.2.1,()))))=F:=by
 cases F with
 | none=>rfl
 | some z=>rfl
theorem gh {F:Option ((Int×Unit)×(jW×Unit))}:(F.bind fun z3=>(some ((z3.1.1,()),(z3.2.1,()))))=F:=by
 cases F with
 | none=>rfl
 | some z=>rfl
theorem Ka {r:ByteArray} {b:Bool} {ns:List aa} : ∀(x out:ae),out.length+x.length≤1000→iI (ba out) (ba x) r b ns=iQ out r b ns (qt x):=by
 intro x
 induction hn:x.length using Nat.strongRecOn generalizing x with
 | ind n ih =>
  intro out hl
  rw[xZ,show(⟨#[34]⟩:ByteArray)=ba [34] from rfl,Sw (by omega)]
  simp only[Option.bind_some]
  by_cases hm:(34:UInt8)∈x
  ·obtain⟨pre,t,h1,h2⟩:=C3 34 x hm
   have hx:x.length=pre.length+t.length+1:=by rw[h1]; simp; omega
   rw[h1,Sv h2,J9 _ pre h2]
   simp only[Bool.not_true,Bool.false_eq_true,if_false]
   rw[bk (by omega),q8 t [34] (by omega)]
   simp only[Option.bind_some,Bs]
   cases t with
   | nil =>
    rw[EO,show([34]:ae).isPrefixOf ([]:ae)=false from rfl]
    simp[iQ]
   | cons d l' =>
    by_cases hd:d=34
    ·subst hd
     rw[List.length_cons] at hx
     have e1:([34]:ae).isPrefixOf (34 :: l')=true:=by rw[fY]; rfl
     rw[e1]
     simp only[Bool.not_true,Bool.false_eq_true,if_false]
     rw[bk (by simp only[List.length_append,List.length_singleton]; omega),show(1:Int)=((1:Nat):Int) from rfl,fq (by simp)]
     simp only[List.drop_succ_cons,List.drop_zero]
     rw[ih l'.length (by omega) l' rfl (out++pre++[34]) (by simp only[List.length_append,List.length_singleton]; omega)]
     rw[EP]
     cases qt l' with
     | none=>rfl
     | some p=>simp[iQ]
    ·have e1:([34]:ae).isPrefixOf (d :: l')=false:=by rw[fY]; simp[hd]
     rw[e1]
     simp only[Bool.not_false,if_true]
     rw[Br hd]
     simp[iQ]
  ·rw[Q6 hm,Sx hm]
   rfl
theorem yk {l:ae} {b:Bool} {ns:List aa} (hl:l.length≤900):iU (ba (34 :: l)) b ns=iQ [] (ba (34 :: l)) b ns (qt l):=by
 rw[BL,show(1:Int)=((1:Nat):Int) from rfl,fq (by simp)]
 exact Ka l [] (by simp; omega)
noncomputable def sQ (acc s:ae) (b:Bool) (ns:List aa):Option (ae×ae)→Option ((Int×Unit)×(jW×Unit))
 | none=>some ((0,()),((ba s,bD s [],true,ns,()),()))
 | some p=>bX (nC (2,0,ba (acc++p.1),())) (ba s) (bD s p.2) b ns
theorem NC {s:ae} {b:Bool} {ns:List aa} (hs:s.length≤900) : ∀(l acc:ae),l <:+ s→acc.length+l.length≤1000→jG (ba acc) (ba s) (bD s l) b ns=sQ acc s b ns (qt l):=by
 intro l
 induction hn:l.length using Nat.strongRecOn generalizing l with
 | ind n ih =>
  intro acc h ha
  subst hn
  rw[CT]
  cases l with
  | nil =>
   rw[av (by rw[aq]; unfold bD; simp)]
   rfl
  | cons c l =>
   obtain⟨pre,h1,h2⟩:=nd h
   have hl:pre.length+l.length+1=s.length:=by rw[h1]; simp; omega
   rw[List.length_cons] at ha
   have h':l <:+ s:=af ⟨[c],rfl⟩ h
   have e1:(pre.length:Int)+1=bD s l:=by
    unfold bD
    omega
   rw[h2,aD (by rw[aq]; omega),jQ h1,wr (by omega) (by omega)]
   by_cases hc:c=34
   ·subst hc
    have e34:(((34:UInt8).toNat:Int) != 34)=false:=rfl
    rw[e34,e1]
    simp only[Bool.false_eq_true,if_false,gh]
    cases l with
    | nil =>
     rw[EO,aD (by rw[aq]; unfold bD; simp)]
     simp[sQ]
    | cons d l' =>
     obtain⟨CY,k1,k2⟩:=nd h'
     have hl2:CY.length+l'.length+1=s.length:=by rw[k1]; simp; omega
     rw[List.length_cons] at ha
     have h'':l' <:+ s:=af ⟨[d],rfl⟩ h'
     have e2:(CY.length:Int)+1=bD s l':=by
      unfold bD
      omega
     rw[k2,av (by rw[aq]; omega),jQ k1]
     by_cases hd:d=34
     ·subst hd
      rw[e34,EP]
      simp only[Bool.false_eq_true,if_false]
      rw[show(⟨#[34]⟩:ByteArray)=ba [34] from rfl,bk (by simp only[List.length_singleton]; omega),wr (by omega) (by omega),e2,ih l'.length (by simp only[List.length_cons]; omega) l' rfl (acc++[34]) h'' (by simp only[List.length_append,List.length_singleton]; omega)]
      cases qt l' with
      | none=>rfl
      | some p=>simp[sQ]
     ·have hd':((d.toNat:Int) != 34)=true:=by
       simp only[bne_iff_ne,ne_eq]
       intro e
       apply hd
       apply UInt8.toNat_inj.1
       show d.toNat=34
       omega
      rw[hd',Br hd]
      simp only[if_true]
      rw[←k2]
      simp[sQ]
   ·have hc':((c.toNat:Int) != 34)=true:=by
     simp only[bne_iff_ne,ne_eq]
     intro e
     apply hc
     apply UInt8.toNat_inj.1
     show c.toNat=34
     omega
    rw[hc']
    simp only[if_true]
    rw[show(pre.length:Int)+1=((pre.length+1:Nat):Int) by omega,wW (by omega) (by omega)]
    have e3:(s.take (pre.length+1)).drop pre.length=[c]:=by
     rw[h1,List.take_append,List.drop_append]
     simp
    rw[e3,bk (by simp only[List.length_singleton]; omega),show((pre.length+1:Nat):Int)=bD s l by omega,ih l.length (by simp) l rfl (acc++[c]) h' (by simp only[List.length_append,List.length_singleton]; omega)]
    rw[yj hc]
    cases qt l with
    | none=>rfl
    | some p=>simp[sQ]
theorem Q7 {s l:ae} {b:Bool} {ns:List aa} (hs:s.length≤900) (h:l <:+ s):xJ (ba s) (bD s l) b ns=sQ [] s b ns (qt l):=by
 rw[HP]
 have:=aA h
 exact NC hs l [] h (by simp; omega)
def c8 (n:Int):ae:=(lb (cT n)).drop 1
abbrev pb:List Int:=[1,2,3,4,5]
def fZ (l:ae) (n:Int):Bool:=(c8 n).isPrefixOf l
theorem Py {pre ys:List Int} {k:Int} (h:pb=pre++k :: ys):k=(pre.length:Int)+1∧1≤k∧k≤5∧cT k=ba (35 :: c8 k)∧(c8 k).length≤10:=by
 have h1:pb[pre.length]? = some k:=by rw[h]; simp
 have hl:pre.length < 5:=by
  have:(pb).length=5:=rfl
  have h2:=congrArg List.length h
  simp at h2
  omega
 have : ∀ i:Fin 5,∀ k,pb[i.val]? = some k→k=(i.val:Int)+1:=by
  intro i k h
  have : ∀ i:Fin 5,pb[i.val]? = some ((i.val:Int)+1):=by decide
  rw[this i] at h
  exact(Option.some.inj h).symm
 have e:=this ⟨pre.length,hl⟩ k h1
 simp only at e
 have f : ∀ i:Fin 5,cT ((i.val:Int)+1)=ba (35 :: c8 ((i.val:Int)+1))∧(c8 ((i.val:Int)+1)).length≤10:=by decide +kernel
 have:=f ⟨pre.length,hl⟩
 simp only at this
 rw[←e] at this
 exact⟨e,by omega,by omega,this.1,this.2⟩
theorem Ho {deep:Int} {l:ae} {b:Bool} {ns:List aa} (hl:l.length≤900) : ∀(ys pre:List Int),pb=pre++ys→du deep ((pre.length:Int)+1) (ba (35 :: l)) b ns=match ys.find? (fZ l) with
  | some n=>bA (vE n) (ba (l.drop (c8 n).length)) b ns
  | none=>du deep 6 (ba (35 :: l)) b ns
 | [],pre,h=>by
  have:pre.length=5:=by
   rw[List.append_nil] at h
   rw[←h]
   rfl
  rw[this]
  rfl
 | k :: ys,pre,h=>by
  obtain⟨e1,e2,e3,e4,e5⟩:=Py h
  rw[←e1,qZ,aD e3,rk (by omega) e3]
  simp only[Option.bind_some]
  rw[e4,q9 _ _ (by rw[List.length_cons]; omega)]
  simp only[Option.bind_some,List.find?_cons]
  have e6:(35 :: c8 k:ae).isPrefixOf (35 :: l)=fZ l k:=by simp[fZ]
  rw[e6]
  cases hp:fZ l k with
  | true =>
   simp only[if_true,uO,Option.bind_some,Bs,List.length_cons,List.drop_succ_cons]
  | false =>
   simp only[Bool.false_eq_true,if_false]
   rw[wr (by omega) (by omega)]
   have:=Ho (deep:=deep) (b:=b) (ns:=ns) hl ys (pre++[k]) (aK h)
   rw[List.length_append,List.length_singleton] at this
   rw[show k+1=((pre.length+1:Nat):Int)+1 by omega]
   exact this
theorem Hp {s l:ae} {b:Bool} {ns:List aa} (hs:s.length≤900) (hl:l <:+ s) : ∀(ys pre:List Int),pb=pre++ys→ia ((pre.length:Int)+1) (ba s) (bD s l) b ns=match ys.find? (fZ l) with
  | some n=>bX (nC (vE n)) (ba s) (bD s (l.drop (c8 n).length)) b ns
  | none=>some ((0,()),((ba s,bD s l,true,ns,()),()))
 | [],pre,h=>by
  have:pre.length=5:=by
   rw[List.append_nil] at h
   rw[←h]
   rfl
  rw[this,tz,av (by decide)]
  rfl
 | k :: ys,pre,h=>by
  obtain⟨e1,e2,e3,e4,e5⟩:=Py h
  obtain⟨q,h1,h2⟩:=nd hl
  have hq:q.length+l.length=s.length:=by rw[h1]; simp
  rw[←e1,tz,aD e3,yb (by omega) e3]
  simp only[Option.bind_some]
  rw[e4,show(1:Int)=((1:Nat):Int) from rfl,fq (by simp)]
  simp only[List.drop_succ_cons,List.drop_zero,aq,List.find?_cons]
  have ih:=Hp (b:=b) (ns:=ns) hs hl ys (pre++[k]) (aK h)
  rw[List.length_append,List.length_singleton,show((pre.length+1:Nat):Int)+1=k+1 by omega] at ih
  have hw:IntKind.i64.wrap (k+((1:Nat):Int))=k+1:=wr (by omega) (by omega)
  rw[hw,h2,wr (by omega) (by omega)]
  by_cases hm:(c8 k).length≤l.length
  ·rw[aD (by omega),show(q.length:Int)+((c8 k).length:Int)=((q.length+(c8 k).length:Nat):Int) by omega,wW (by omega) (by omega),cN]
   have e:(s.take (q.length+(c8 k).length)).drop q.length=l.take (c8 k).length:=by
    rw[h1,List.take_append,List.drop_append]
    simp
   have e7:decide (l.take (c8 k).length=c8 k)=fZ l k:=by
    unfold fZ
    rw[Bool.eq_iff_iff,decide_eq_true_eq,List.isPrefixOf_iff_prefix,List.prefix_iff_eq_take]
    exact eq_comm
   rw[e,e7]
   cases hp:fZ l k with
   | true =>
    simp only[if_true,Ch,Option.bind_some,gh]
    congr 1
    unfold bD
    rw[List.length_drop]
    omega
   | false =>
    simp only[Bool.false_eq_true,if_false]
    rw[←h2]
    exact ih
  ·rw[av (by omega)]
   have hp:fZ l k=false:=by
    rw[Bool.eq_false_iff]
    intro hp
    exact hm (Bp hp)
   rw[hp,←h2]
   exact ih
def dj (k:Int):ae:=([[],[83,85,77],[77,73,78],[77,65,88],[67,79,85,78,84],[73,70],[65,78,68],[79,82],[78,79,84],[65,66,83],[76,69,78]]:List ae).getD k.toNat []
abbrev lf:List Int:=[1,2,3,4,5,6,7,8,9,10]
theorem Pz (k:Fin 11):List.getD ([(⟨#[]⟩:ByteArray),(⟨#[83,85,77]⟩:ByteArray),(⟨#[77,73,78]⟩:ByteArray),(⟨#[77,65,88]⟩:ByteArray),(⟨#[67,79,85,78,84]⟩:ByteArray),(⟨#[73,70]⟩:ByteArray),(⟨#[65,78,68]⟩:ByteArray),(⟨#[79,82]⟩:ByteArray),(⟨#[78,79,84]⟩:ByteArray),(⟨#[65,66,83]⟩:ByteArray),(⟨#[76,69,78]⟩:ByteArray)]:(List ByteArray)) k.val (⟨#[]⟩:ByteArray)=ba (dj (k.val:Int)):=by
 revert k
 decide +kernel
theorem Kb {k:Int} (h0:0≤k) (h1:k≤10):Im k=some ((ba (dj k),()),()):=by
 rw[QT,iZ h0 (by show k < 11; omega)]
 have h:=Pz ⟨k.toNat,by omega⟩
 simp only[Int.toNat_of_nonneg h0] at h
 rw[h]
theorem EQ {k:Int} (h0:0≤k) (h1:k≤10):Bb k=some ((ba (dj k),()),()):=by
 rw[Ng,iZ h0 (by show k < 11; omega)]
 have h:=Pz ⟨k.toNat,by omega⟩
 simp only[Int.toNat_of_nonneg h0] at h
 rw[h]
theorem PA {pre ys:List Int} {k:Int} (h:lf=pre++k :: ys):k=(pre.length:Int)+1∧1≤k∧k≤10:=by
 have h1:lf[pre.length]? = some k:=by rw[h]; simp
 have hl:pre.length < 10:=by
  have h2:=congrArg List.length h
  simp at h2
  omega
 have : ∀ i:Fin 10,lf[i.val]? = some ((i.val:Int)+1):=by decide
 rw[this ⟨pre.length,hl⟩] at h1
 have e:=(Option.some.inj h1).symm
 simp only at e
 exact⟨e,by omega,by omega⟩
theorem Kc {deep:Int} {w l:ae} {b:Bool} {ns:List aa} : ∀(ys pre:List Int),lf=pre++ys→dC deep (ba w) ((pre.length:Int)+1) (ba l) b ns=match ys.find? (fun k=>decide (dj k=w)) with
  | some k=>fG k deep (ba l) b ns
  | none=>some ((-1,()),((ba l,ns,true,()),()))
 | [],pre,h=>by
  have:pre.length=10:=by
   rw[List.append_nil] at h
   rw[←h]
   rfl
  rw[this,pn,av (by decide)]
  rfl
 | k :: ys,pre,h=>by
  obtain⟨e1,e2,e3⟩:=PA h
  rw[←e1,pn,aD e3,EQ (by omega) e3]
  simp only[Option.bind_some,cN,List.find?_cons,Bs]
  by_cases hp:dj k=w
  ·rw[aD hp.symm]
   simp[hp]
  ·rw[av (Ne.symm hp),wr (by omega) (by omega)]
   have:=Kc (deep:=deep) (w:=w) (l:=l) (b:=b) (ns:=ns) ys (pre++[k]) (aK h)
   rw[List.length_append,List.length_singleton,show((pre.length+1:Nat):Int)+1=k+1 by omega] at this
   rw[this]
   simp[hp]
noncomputable def p4 (w s:ae) (a:Int) (b:Bool) (ns:List aa):Option ((Int×Unit)×(jW×Unit)) :=
 if(bq w).2=true∧w≠[] then bX (nC (bq w).1) (ba s) a b ns
 else if(co w).2=true then bX (2,0,(0,0,(⟨#[]⟩:ByteArray),()),(co w).1,((0,0,()),false,false,()),([]:(List Int)),()) (ba s) a b ns
 else some ((0,()),((ba s,a,true,ns,()),()))
theorem ND {w s:ae} {a:Int} {b:Bool} {ns:List aa} (hw:w.length≤1000):fg (ba w) 11 (ba s) a b ns=p4 w s a b ns:=by
 rw[tA,av (by decide),rn (by omega),rm (by omega)]
 simp only[Option.bind_some,gh]
 have e0:(ByteArray.toList (ba w) == ByteArray.toList (⟨#[]⟩:ByteArray))=decide (w=[]):=cN (b:=[])
 rw[e0]
 unfold p4
 cases (bq w).2 <;> by_cases hw0:w=[] <;> cases (co w).2 <;> simp[hw0]
theorem Kd {w s:ae} {ns:List aa} (hw:w.length≤1000) (hs:s.length≤900) : ∀(ys pre:List Int) (l:ae),lf=pre++ys→l <:+ s → ∃ l',(l'=l∨l'=bl l)∧fg (ba w) ((pre.length:Int)+1) (ba s) (bD s l) false ns=match ys.find? (fun k=>decide (dj k=w) && ([40]:ae).isPrefixOf (bl l)) with
  | some k=>xL k (ba s) (bD s ((bl l).drop 1)) false ns
  | none=>p4 w s (bD s l') false ns
 | [],pre,l,h,hl=>by
  have:pre.length=10:=by
   rw[List.append_nil] at h
   rw[←h]
   rfl
  refine⟨l,.inl rfl,?_⟩
  rw[this]
  exact ND hw
 | k :: ys,pre,l,h,hl=>by
  obtain⟨e1,e2,e3⟩:=PA h
  have ih:=fun l' (hl':l' <:+ s)=>Kd (ns:=ns) hw hs ys (pre++[k]) l' (aK h) hl'
  rw[List.length_append,List.length_singleton,show((pre.length+1:Nat):Int)+1=k+1 by omega] at ih
  rw[←e1,tA,aD e3,Kb (by omega) e3]
  simp only[Option.bind_some,cN,List.find?_cons,gh]
  by_cases hp:dj k=w
  ·rw[aD hp,show(⟨#[40]⟩:ByteArray)=ba [40] from rfl,gX (by omega) (by decide) hl]
   simp only[Option.bind_some,Bool.not_false,Bool.true_and,hp,decide_true]
   cases hq:([40]:ae).isPrefixOf (bl l) with
   | true=>exact⟨l,.inl rfl,rfl⟩
   | false =>
    simp only[Bool.false_eq_true,if_false]
    rw[wr (by omega) (by omega)]
    obtain⟨l',h1,h2⟩:=ih (bl l) (af (ao l) hl)
    rw[df] at h1 h2
    refine⟨l',.inr (by simpa using h1),?_⟩
    rw[h2,hq]
  ·rw[av hp,wr (by omega) (by omega)]
   obtain⟨l',h1,h2⟩:=ih l hl
   refine⟨l',h1,?_⟩
   rw[h2]
   simp[hp]
end Go.Proofs.YtddiiceaindlhaaGreatDoor.Abs
set_option linter.unusedVariables false
set_option linter.unusedSimpArgs false
set_option linter.unusedSectionVars false
namespace Go.Proofs.YtddiiceaindlhaaGreatDoor.Abs
open Go
theorem lg (p:UInt8→Bool) (l:ae):(l.takeWhile p).length≤l.length:=(List.takeWhile_prefix p).length_le
abbrev nP (p:aB):aa:=(2,0,(0,0,(⟨#[]⟩:ByteArray),()),p,((0,0,()),false,false,()),([]:(List Int)),())
abbrev nA (p q:aB):aa:=(3,0,(0,0,(⟨#[]⟩:ByteArray),()),p,q,([]:(List Int)),())
noncomputable def eB (deep:Int) (w r:ae) (b:Bool) (ns:List aa):Option ((Int×Unit)×(pG×Unit)) :=
 if(bq w).2=true∧((bq w).1.1=1∨(bq w).1.1=3) then bA (bq w).1 (ba r) b ns
 else if(co w).2=true then az (nP (co w).1) (ba r) b ns
 else match lf.find? (fun k=>decide (dj k=w)) with
  | some k=>fG k deep (ba r) b ns
  | none=>some ((-1,()),((ba r,ns,true,()),()))
theorem fM {F:Option ((Int×Unit)×(pG×Unit))}:(F.bind fun z3=>(some ((z3.1.1,()),(z3.2.1,()))))=F:=Bs
theorem PB {deep:Int} {w l:ae} {b:Bool} {ns:List aa}:dC deep (ba w) 1 (ba l) b ns=match lf.find? (fun k=>decide (dj k=w)) with
  | some k=>fG k deep (ba l) b ns
  | none=>some ((-1,()),((ba l,ns,true,()),())):=Kc lf [] rfl
theorem T3 {deep:Int} {l:ae} {b:Bool} {ns:List aa} (hl:l.length≤900):du deep 6 (ba l) b ns=eB deep ((bl l).takeWhile aE) ((bl l).dropWhile aE) b ns:=by
 have h1:=aA (ao l)
 have h2:((bl l).takeWhile aE).length≤(bl l).length:=lg aE (bl l)
 rw[qZ,av (by decide),yh (by omega)]
 simp only[Option.bind_some]
 rw[rp (by omega),mW (by omega)]
 simp only[Option.bind_some,fM,PB]
 unfold eB
 cases (bq ((bl l).takeWhile aE)).2 with
 | false=>simp
 | true =>
  by_cases k1:(bq ((bl l).takeWhile aE)).1.1=1
  ·simp[k1]
  ·by_cases k3:(bq ((bl l).takeWhile aE)).1.1=3
   ·simp[k3]
   ·simp[k1,k3]
theorem p5 {deep:Int} {l:ae} {b:Bool} {ns:List aa} (hl:l.length≤900):eU deep (ba l) b ns =
  if(bl l).head? = some 34 then iU (ba (bl l)) b ns
  else if(bl l).head? = some 35 then du deep 1 (ba (bl l)) b ns
  else if(bl l).head? = some 40 then((bg 1 (IntKind.i64.wrap (deep+1)) (ba ((bl l).drop 1)) b ns).bind fun z6=>(if z6.2.1.2.2.1=true then(some ((z6.1.1,()),((z6.2.1.1,z6.2.1.2.1,true,()),()))) else((aZ (⟨#[41]⟩:ByteArray) z6.2.1.1 z6.2.1.2.2.1 z6.2.1.2.1).bind fun z7=>(some ((z6.1.1,()),((z7.2.1.1,z7.2.1.2.1,(!z7.1.1),()),()))))))
  else eB deep ((bl l).takeWhile aE) ((bl l).dropWhile aE) b ns:=by
 have h1:=aA (ao l)
 have h2:((bl l).takeWhile aE).length≤(bl l).length:=lg aE (bl l)
 rw[El,lX]
 simp only[Option.bind_some]
 rw[show(⟨#[34]⟩:ByteArray)=ba [34] from rfl,q8 _ _ (by omega),show(⟨#[35]⟩:ByteArray)=ba [35] from rfl,q8 _ _ (by omega),show(⟨#[40]⟩:ByteArray)=ba [40] from rfl,cw (by omega)]
 simp only[Option.bind_some,fM,CX,df,gp (c:=40) (.inr (.inl rfl)),decide_eq_true_eq,List.length_singleton]
 by_cases c1:(bl l).head? = some 34
 ·rw[if_pos c1,if_pos c1]
 ·rw[if_neg c1,if_neg c1]
  by_cases c2:(bl l).head? = some 35
  ·rw[if_pos c2,if_pos c2]
  ·rw[if_neg c2,if_neg c2]
   by_cases c3:(bl l).head? = some 40
   ·rw[if_pos c3,if_pos c3,if_pos c3]
   ·rw[if_neg c3,if_neg c3,if_neg c3,yh (by omega),df]
    simp only[Option.bind_some]
    rw[rp (by omega),mW (by omega)]
    simp only[Option.bind_some,fM,PB]
    unfold eB
    cases (bq ((bl l).takeWhile aE)).2 with
    | false=>simp
    | true =>
     by_cases k1:(bq ((bl l).takeWhile aE)).1.1=1
     ·simp[k1]
     ·by_cases k3:(bq ((bl l).takeWhile aE)).1.1=3
      ·simp[k3]
      ·simp[k1,k3]
def yT (m:ae):Bool:=(co (m.takeWhile aE)).2 && decide ((bl (m.dropWhile aE)).head? = some 58)
def iC (m:ae):ae:=bl ((bl (m.dropWhile aE)).drop 1)
theorem C4 {l:ae} {b:Bool} {ns:List aa} (hl:l.length≤900):jr (ba l) b ns =
  if yT (bl l)=true then some ((nA (co ((bl l).takeWhile aE)).1 (co ((iC (bl l)).takeWhile aE)).1,true,()),((ba ((iC (bl l)).dropWhile aE),ns,(b || !(co ((iC (bl l)).takeWhile aE)).2),()),()))
  else some (((0,0,(0,0,(⟨#[]⟩:ByteArray),()),((0,0,()),false,false,()),((0,0,()),false,false,()),([]:(List Int)),()),false,()),((ba l,ns,b,()),())):=by
 have h1:=aA (ao l)
 have h2:((bl l).takeWhile aE).length≤(bl l).length:=lg aE (bl l)
 have h3:=Hi aE (bl l)
 have h4:=aA (ao ((bl l).dropWhile aE))
 have h5:((bl ((bl l).dropWhile aE)).drop 1).length≤(bl ((bl l).dropWhile aE)).length:=aA (fx 1 _)
 have h6:=aA (ao ((bl ((bl l).dropWhile aE)).drop 1))
 have h7:((iC (bl l)).takeWhile aE).length≤(iC (bl l)).length:=lg aE _
 have h8:(iC (bl l)).length≤((bl ((bl l).dropWhile aE)).drop 1).length:=h6
 rw[zb,yh (by omega)]
 simp only[Option.bind_some]
 rw[mW (by omega)]
 simp only[Option.bind_some]
 unfold yT
 cases hp:(co ((bl l).takeWhile aE)).2 with
 | false=>simp
 | true =>
  simp only[if_true,Bool.true_and]
  rw[show(⟨#[58]⟩:ByteArray)=ba [58] from rfl,cw (by omega)]
  simp only[Option.bind_some,gp (c:=58) (.inr (.inr (.inr (.inr rfl)))),List.length_singleton]
  by_cases hc:(bl ((bl l).dropWhile aE)).head? = some 58
  ·simp only[hc,decide_true,Bool.not_true,Bool.false_eq_true,if_false,if_true]
   rw[yh (by omega)]
   simp only[Option.bind_some]
   rw[show bl ((bl ((bl l).dropWhile aE)).drop 1)=iC (bl l) from rfl,mW (by omega)]
   simp only[Option.bind_some]
   cases b <;> simp
  ·simp only[hc,decide_false,Bool.not_false,if_true,Bool.false_eq_true,if_false]
end Go.Proofs.YtddiiceaindlhaaGreatDoor.Abs
