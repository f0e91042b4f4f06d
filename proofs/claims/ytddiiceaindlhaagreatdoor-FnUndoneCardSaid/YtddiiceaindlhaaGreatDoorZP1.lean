/- Plain laws: wraps, places of rows and texts, sizes. -/
import Derived.Test.YtddiiceaindlhaaGreatDoorZA3
import Derived.Test.YtddiiceaindlhaaGreatDoorZQ1
set_option linter.unusedVariables false
set_option linter.unusedSimpArgs false
set_option linter.unusedSectionVars false
namespace Go.Proofs.YtddiiceaindlhaaGreatDoor.Abs
open Go
section
variable {α β:Type}
theorem bU {xs pre ys:List α} {y d:α} {f:α→Option β} (h:xs=pre++y :: ys):ix xs (pre.length:Int) d f=f y:=by
 subst h
 have h1:((pre.length:Nat):Int) < ((pre++y :: ys).length:Int):=IV
 unfold ix
 rw[if_pos (nn _),if_pos h1,j9]
theorem dZ {xs:List α} {i:Int} {y d:α} {f:α→Option β} (h0:0≤i) (h:xs[i.toNat]? = some y):ix xs i d f=f y:=by
 have h2:=(List.getElem?_eq_some_iff.1 h)
 obtain⟨h3,h4⟩:=h2
 have h1:i < (xs.length:Int):=by omega
 unfold ix
 rw[if_pos h0,if_pos h1]
 congr 1
 simp[List.getD_eq_getElem?_getD,h]
theorem jg {xs:List α} {i:Int} {k:Option β} (h0:0≤i) (h1:i < (xs.length:Int)):inb xs i k=k:=by
 unfold inb
 rw[if_pos h0,if_pos h1]
theorem ir {xs pre ys:List α} {y:α} {k:Option β} (h:xs=pre++y :: ys):inb xs (pre.length:Int) k=k:=by
 subst h
 exact jg (nn _) IV
theorem S8 {s:ByteArray} {i:Int} {f:Int→Option β} (h0:0≤i) (h1:i < (s.size:Int)):et s i f=f (bt s i):=by
 unfold et
 rw[if_pos h0,if_pos h1]
theorem nI {a b:ByteArray} {f:ByteArray→Option β} (h:a.size+b.size≤9223372036854775807):cats a b f=f (a++b):=if_pos h
theorem bG {a b:List α} {n:Nat} {f:List α→Option β} (h:(a.length+b.length)*n≤140737488355328):app a b n f=f (a++b):=if_pos h
theorem S9 {s:ByteArray} {h:Int} {f:ByteArray→Option β} (h0:0≤h) (h1:h≤(s.size:Int)):Br s h f=f (s.extract 0 h.toNat):=by
 unfold Br
 rw[if_pos h0,if_pos h1]
theorem Ta {s:ByteArray} {l:Int} {f:ByteArray→Option β} (h0:0≤l) (h1:l≤(s.size:Int)):il s l f=f (s.extract l.toNat s.size):=by
 unfold il
 rw[if_pos h0,if_pos h1]
theorem Tb {s:ByteArray} {l h:Int} {f:ByteArray→Option β} (h0:0≤l) (h1:l≤h) (h2:h≤(s.size:Int)):tY s l h f=f (s.extract l.toNat h.toNat):=by
 unfold tY
 rw[if_pos (by omega),if_pos h2,if_pos h0,if_pos h1]
theorem OO {xs:List α} {h:Int} {f:List α→Option β} (h0:0≤h) (h1:h≤(xs.length:Int)):Bs xs h f=f (xs.take h.toNat):=by
 unfold Bs
 rw[if_pos h0,if_pos h1]
theorem Rq {b:Int} {k:Option β} (h:b≠0):nz b k=k:=if_neg h
theorem cK {xs pre ys:List α} {y:α} (h:xs=pre++y :: ys):((pre.length:Nat):Int) < (xs.length:Int):=by rw[h]; exact IV
theorem ct {xs pre:List α} (h:xs=pre++[]) : ¬((pre.length:Nat):Int) < (xs.length:Int):=by rw[h,List.append_nil]; exact Int.lt_irrefl _
theorem bk {xs pre ys:List α} {y:α} (h:xs=pre++y :: ys) (hl:xs.length≤9223372036854775807):IntKind.i64.wrap ((pre.length:Int)+1)=((pre++[y]).length:Int):=by
 have:=cK h
 rw[wr (by omega) (by omega),Qs]
theorem aZ {xs pre ys:List α} {y:α} (h:xs=pre++y :: ys):xs=(pre++[y])++ys:=by rw[h]; simp
end
def nJ (s:ByteArray):List Int:=s.data.toList.map fun b=>(b.toNat:Int)
theorem wy (s:ByteArray):(nJ s).length=s.size:=by
 unfold nJ
 rw[List.length_map,Array.length_toList]
 rfl
theorem Tc {s:ByteArray} {pre ys:List Int} {y:Int} (h:nJ s=pre++y :: ys):bt s (pre.length:Int)=y:=by
 have hl:pre.length < s.size:=by rw[←wy,h]; simp
 unfold bt
 simp only[Int.toNat_natCast,hl,dite_true]
 have h1:(nJ s)[pre.length]? = some y:=by rw[h]; simp
 unfold nJ at h1
 rw[List.getElem?_map,Option.map_eq_some_iff] at h1
 obtain⟨b,hb,rfl⟩:=h1
 rw[List.getElem?_eq_some_iff] at hb
 obtain⟨_,hb⟩:=hb
 rw[←hb]
 simp[ByteArray.getElem_eq_getElem_data]
@[simp] theorem TU (a b:ByteArray):nJ (a++b)=nJ a++nJ b:=by simp[nJ]
@[simp] theorem size_append (a b:ByteArray):(a++b).size=a.size+b.size:=ByteArray.size_append
theorem zD {β:Type} {s:ByteArray} {pre ys:List Int} {y:Int} {f:Int→Option β} (h:nJ s=pre++y :: ys):et s (pre.length:Int) f=f y:=by
 have hl:((pre.length:Nat):Int) < (s.size:Int):=by rw[←wy]; exact cK h
 rw[S8 (nn _) hl,Tc h]
theorem OP {s:ByteArray} {pre ys:List Int} {y:Int} (h:nJ s=pre++y :: ys):((pre.length:Nat):Int) < (s.size:Int):=by rw[←wy]; exact cK h
theorem LJ {s:ByteArray} {pre:List Int} (h:nJ s=pre++[]) : ¬((pre.length:Nat):Int) < (s.size:Int):=by rw[←wy]; exact ct h
theorem JB {s:ByteArray} {pre ys:List Int} {y:Int} (h:nJ s=pre++y :: ys) (hl:s.size≤9223372036854775807):IntKind.i64.wrap ((pre.length:Int)+1)=((pre++[y]).length:Int):=bk h (by rw[wy]; exact hl)
@[simp] theorem Uh {x y:ByteArray}:(x == y)=true↔x=y:=by
 cases x; cases y
 constructor
 ·intro h
  congr 1
  exact eq_of_beq h
 ·intro h
  cases h
  exact beq_self_eq_true (α:=Array UInt8) _
theorem nK : ∀ {t:Ty} {x y:t.den},cP t=true→(bC t x y=true↔x=y)
 | .int _,x,y,_=>by simp[bC]
 | .bool,x,y,_=>by simp[bC]
 | .str,x,y,_=>by
  exact Uh
 | .unit,_,_,_=>by simp[bC]
 | .pair a b,x,y,h=>by
  simp only[cP,Bool.and_eq_true] at h
  simp only[bC,Bool.and_eq_true,nK h.1,nK h.2]
  exact⟨fun⟨h1,h2⟩=>Prod.ext h1 h2,fun h=>by rw[h]; exact⟨rfl,rfl⟩⟩
 | .agg t,x,y,h=>by
  simp only[cP] at h
  simp only[bC,nK h]
 | .slice _ _,_,_,h=>by cases h
end Go.Proofs.YtddiiceaindlhaaGreatDoor.Abs
set_option linter.unusedVariables false
set_option linter.unusedSimpArgs false
set_option linter.unusedSectionVars false
namespace Go.Proofs.YtddiiceaindlhaaGreatDoor.Abs
open Go
theorem aI {α:Type} {p:Prop} [Decidable p] {a b:α} (h:p):(if decide p=true then a else b)=a:=if_pos (decide_eq_true h)
theorem aE {α:Type} {p:Prop} [Decidable p] {a b:α} (h : ¬p):(if decide p=true then a else b)=b:=if_neg (by simpa using h)
section
variable {α:Type}
end
end Go.Proofs.YtddiiceaindlhaaGreatDoor.Abs
set_option linter.unusedVariables false
set_option linter.unusedSimpArgs false
set_option linter.unusedSectionVars false
namespace Go.Proofs.YtddiiceaindlhaaGreatDoor.Abs
open Go
abbrev eS:ByteArray:=⟨#[]⟩
theorem M2 (a b:Int):(a == b)=decide (a=b):=rfl
def bz (n lo hi:Int):Bool:=decide (lo≤n∧n≤hi)
theorem jG (n lo hi:Int):fh n lo hi=some ((bz n lo hi,()),()):=by
 rw[MM]
 unfold bz
 by_cases h:lo≤n <;> simp[h]
theorem eJ (n lo hi:Int):gy n lo hi=some ((bz n lo hi,()),()):=by
 rw[Qw]
 unfold bz
 by_cases h:lo≤n <;> simp[h]
theorem bd {n lo hi:Int}:bz n lo hi=true↔lo≤n∧n≤hi:=by simp[bz]
def ao (r:ai):Bool:=bz r.1 1 52 && bz r.2.1 1 99
theorem gG (r:ai):cH r=some ((ao r,()),()):=by
 rw[OB]
 unfold ao
 simp only[eJ,Option.bind_some]
 cases bz r.1 1 52 <;> simp
theorem nL (r:ai):gr r=some ((ao r,()),()):=by
 rw[OF]
 unfold ao
 simp only[jG,Option.bind_some]
 cases bz r.1 1 52 <;> simp
def cf (a:aW):Bool:=ao a.1 && ao a.2.1 && decide (a.1.1≤a.2.1.1) && decide (a.1.2.1≤a.2.1.2.1)
theorem xE (a:aW):vY a=some ((cf a,()),()):=by
 rw[MF]
 unfold cf
 simp only[gG,Option.bind_some]
 cases ao a.1 <;> cases ao a.2.1 <;> by_cases h:a.1.1≤a.2.1.1 <;> simp[h]
theorem lZ (a:aW):pL a=some ((cf a,()),()):=by
 rw[MR]
 unfold cf
 simp only[nL,Option.bind_some]
 cases ao a.1 <;> cases ao a.2.1 <;> by_cases h:a.1.1≤a.2.1.1 <;> simp[h]
def ru (b:Int):Bool:=decide (32≤b∧b≤126)
def plain (s:ByteArray):Bool:=(nJ s).all ru
theorem yu {s:ByteArray} (hs:s.size≤9223372036854775807) : ∀(ys pre:List Int),nJ s=pre++ys→qm s (pre.length:Int)=some ((ys.all ru && decide ((s.size:Int)≤200),()),())
 | [],pre,he=>by
  rw[wn,aE (LJ he)]
  simp
 | y :: ys,pre,he=>by
  rw[wn,aI (OP he),zD he,zD he,JB he hs,yu hs ys _ (aZ he)]
  by_cases h1:y < 32
  ·have:ru y=false:=by simp[ru]; omega
   simp[h1,this]
  ·by_cases h2:y > 126
   ·have:ru y=false:=by simp[ru]; omega
    simp[h1,h2,this]
   ·have:ru y=true:=by simp[ru]; omega
    simp[h1,h2,this]
theorem mA {s:ByteArray} (hs:s.size≤9223372036854775807):sR s=some ((plain s && decide ((s.size:Int)≤200),()),()):=by
 rw[KH]
 exact yu hs (nJ s) [] rfl
theorem zE {s:ByteArray} {m:Int} (hs:s.size≤9223372036854775807) : ∀(ys pre:List Int),nJ s=pre++ys→rP s m (s.size:Int) (pre.length:Int)=some ((ys.all ru && decide ((s.size:Int)≤m),()),())
 | [],pre,he=>by
  rw[yk,aE (LJ he)]
  simp
 | y :: ys,pre,he=>by
  rw[yk,aI (OP he),zD he,zD he,JB he hs,zE hs ys _ (aZ he)]
  by_cases h1:y < 32
  ·have:ru y=false:=by simp[ru]; omega
   simp[h1,this]
  ·by_cases h2:y > 126
   ·have:ru y=false:=by simp[ru]; omega
    simp[h1,h2,this]
   ·have:ru y=true:=by simp[ru]; omega
    simp[h1,h2,this]
theorem rV {s:ByteArray} {m:Int} (hs:s.size≤9223372036854775807):wa s m=some ((plain s && decide ((s.size:Int)≤m),()),()):=by
 rw[MN]
 exact zE hs (nJ s) [] rfl
def aN (v:ax):Bool :=
 if v.1=2 then decide (v.2.1=0) && (plain v.2.2.1 && decide ((v.2.2.1.size:Int)≤200)) else
 decide (v.2.2.1=eS) && (if v.1=0 then decide (v.2.1=0) else if v.1=1 then bz v.2.1 (-1000000000000000) 1000000000000000 else if v.1=3 then bz v.2.1 0 1 else if v.1=4 then bz v.2.1 1 5 else false)
theorem mB {v:ax} (h:v.2.2.1.size≤9223372036854775807):gY v=some ((aN v,()),()):=by
 rw[KJ]
 unfold aN
 simp only[eJ,mA h,Option.bind_some,beq_iff_eq,ol]
 by_cases h0:v.1=0
 ·by_cases h1:v.2.1=0 <;> simp[h0,h1]
 by_cases h1:v.1=1
 ·cases bz v.2.1 (-1000000000000000) 1000000000000000 <;> simp[h1]
 by_cases h2:v.1=2
 ·by_cases h1:v.2.1=0 <;> simp[h2,h1]
 by_cases h3:v.1=3
 ·cases bz v.2.1 0 1 <;> simp[h3]
 by_cases h4:v.1=4
 ·cases bz v.2.1 1 5 <;> simp[h4]
 simp[h0,h1,h2,h3,h4]
theorem vf {v:ax} (h:v.2.2.1.size≤9223372036854775807):g5 v=some ((aN v,()),()):=by
 rw[KR]
 unfold aN
 simp only[jG,rV h,Option.bind_some,beq_iff_eq,ol]
 by_cases h2:v.1=2
 ·by_cases h1:v.2.1=0 <;> simp[h2,h1]
 by_cases he:v.2.2.1=eS
 ·by_cases h0:v.1=0
  ·by_cases h1:v.2.1=0 <;> simp[h0,h1,he]
  by_cases h1:v.1=1
  ·cases bz v.2.1 (-1000000000000000) 1000000000000000 <;> simp[h1,he]
  by_cases h3:v.1=3
  ·cases bz v.2.1 0 1 <;> simp[h3,he]
  by_cases h4:v.1=4
  ·cases bz v.2.1 1 5 <;> simp[h4,he]
  simp[h0,h1,h2,h3,h4,he]
 ·simp[h2,he]
theorem it {v:ax} (h:aN v=true):v.2.2.1.size≤200:=by
 unfold aN at h
 split at h
 ·simp only[Bool.and_eq_true,decide_eq_true_eq] at h
  omega
 ·simp only[Bool.and_eq_true,decide_eq_true_eq] at h
  rw[h.1]
  decide
theorem jn {v:ax} (h:aN v=true):v.2.2.1.size≤9223372036854775807:=Nat.le_trans (it h) (by decide)
def vN (n:Int):ax:=(1,n,eS,())
def vE (n:Int):ax:=(4,n,eS,())
def vB (b:Bool):ax:=(3,if b=true then 1 else 0,eS,())
def vT (s:ByteArray):ax:=(2,0,s,())
def v0:ax:=(0,0,eS,())
theorem BQ (n:Int):xl n=some ((vE n,()),()):=KK
theorem uA (n:Int):jM n=some ((vE n,()),()):=OG
theorem D2 (n:Int):AE n=some ((vN n,()),()):=MO
theorem OQ (b:Bool):DG b=some ((vB b,()),()):=by
 rw[OH]
 cases b <;> rfl
def bnd (n:Int):ax:=if bz n (-1000000000000000) 1000000000000000=true then vN n else vE 4
section
variable {a b:ax} (ha:a.2.2.1.size≤9223372036854775807) (hb:b.2.2.1.size≤9223372036854775807)
include ha hb
end
end Go.Proofs.YtddiiceaindlhaaGreatDoor.Abs
set_option linter.unusedVariables false
set_option linter.unusedSimpArgs false
set_option linter.unusedSectionVars false
namespace Go.Proofs.YtddiiceaindlhaaGreatDoor.Abs
open Go
section
variable {a b:ax} (ha:a.2.2.1.size≤9223372036854775807) (hb:b.2.2.1.size≤9223372036854775807)
include ha hb
end
theorem Uc {n:Int} (h0:0≤n) (h1:n≤255):IntKind.u8.wrap n=n:=by
 simp only[IntKind.wrap,IntKind.bits,IntKind.signed]
 simp
 omega
theorem D3 : ∀(k u:Nat),u < 10 ^ (k+1)→(Lib.decDigits u).length≤k+1
 | 0,u,h=>by
  have h:u < 10:=by simpa using h
  rw[Lib.decDigits,dif_pos h]
  simp
 | k+1,u,h=>by
  rw[Lib.decDigits]
  split
  ·simp
  ·have:=D3 k (u / 10) (by rw[Nat.pow_succ] at h; exact Nat.div_lt_of_lt_mul (by omega))
   rw[List.length_append]
   simp only[List.length_singleton]
   omega
theorem rX {x:Nat} (h:x < 10):strOfNums ([IntKind.u8.wrap (IntKind.i64.wrap (48+(x:Int)))]:List Int)=⟨#[UInt8.ofNat (48+x)]⟩:=by
 rw[wr (by omega) (by omega),Uc (by omega) (by omega)]
 unfold strOfNums
 simp only[List.map_cons,List.map_nil]
 congr 3
theorem wz {a b:ByteArray} (h:a.data.toList=b.data.toList):a=b:=by
 cases a; cases b
 congr 1
 exact Array.toList_inj.1 h
theorem zF : ∀(n u:Nat) (acc:ByteArray),u≤n→u≤9223372036854775807→acc.size+n≤9223372036854775806→qH (u:Int) acc=some ((⟨(Lib.decDigits u).toArray⟩++acc,()),()):=by
 intro n
 induction n with
 | zero =>
  intro u acc h1 h2 h3
  have:u=0:=by omega
  subst this
  rw[tg,aE (by decide),show((0:Nat):Int)=((0:Nat):Int) from rfl,rX (x:=0) (by decide),nI (by simp only[ByteArray.size]; simp; have:acc.data.size=acc.size:=rfl; omega)]
  rw[Lib.decDigits,dif_pos (by decide)]
 | succ n ih =>
  intro u acc h1 h2 h3
  rw[tg]
  have hs : ∀ c:UInt8,(⟨#[c]⟩:ByteArray).size=1:=fun _=>rfl
  by_cases h:u < 10
  ·rw[aE (by omega),rX h,nI (by rw[hs]; omega)]
   rw[Lib.decDigits,dif_pos h]
  ·have e1:Int.tmod (u:Int) 10=((u % 10:Nat):Int):=by
    rw[Int.tmod_eq_emod_of_nonneg (by omega)]
    omega
   have e2:Int.tdiv (u:Int) 10=((u / 10:Nat):Int):=by
    rw[Int.tdiv_eq_ediv_of_nonneg (by omega)]
    omega
   rw[aI (by omega),e1,e2,rX (Nat.mod_lt _ (by decide)),nI (by rw[hs]; omega),wr (by omega) (by omega),ih (u / 10) _ (by omega) (by omega) (by rw[size_append,hs]; omega)]
   conv=>rhs; rw[Lib.decDigits,dif_neg h]
   congr 3
   apply wz
   simp
theorem uB (u:Nat):dp (u:Int)=⟨(Lib.decDigits u).toArray⟩:=by
 unfold dp Lib.itoa
 rw[if_neg (by omega)]
 simp
theorem zG {n:Int} (h:n < 0):dp n=⟨#[45]⟩++dp (-n):=by
 unfold dp Lib.itoa
 rw[if_pos h,if_neg (by omega)]
 apply wz
 simp
 congr 1
 omega
theorem Fz {u:Nat} (h:u≤9223372036854775807):(⟨(Lib.decDigits u).toArray⟩:ByteArray).size≤19:=by
 have:=D3 18 u (by omega)
 simpa[ByteArray.size] using this
theorem oX {n:Int} (h0 : -9223372036854775807≤n) (h1:n≤9223372036854775807):(dp n).size≤20:=by
 by_cases h:n < 0
 ·rw[zG h,size_append,show -n=((-n).toNat:Int) by omega,uB]
  have:=Fz (u:=(-n).toNat) (by omega)
  have h1:(⟨#[45]⟩:ByteArray).size=1:=rfl
  omega
 ·rw[show n=(n.toNat:Int) by omega,uB]
  have:=Fz (u:=n.toNat) (by omega)
  omega
theorem D4 {u:Nat} (h:u≤9223372036854775807):dC (u:Int)=some ((dp (u:Int),()),()):=by
 have h19:=Fz h
 rw[GI,aE (by omega),uB]
 have h2 : ∀ acc:ByteArray,acc.size=0→qH (u:Int) acc=some ((⟨(Lib.decDigits u).toArray⟩++acc,()),()):=by
  intro acc ha
  by_cases hu:u≤9223372036854775806
  ·exact zF u u acc (Nat.le_refl _) h (by omega)
  ·have hu:u=9223372036854775807:=by omega
   subst hu
   have hs : ∀ c:UInt8,(⟨#[c]⟩:ByteArray).size=1:=fun _=>rfl
   have e1:Int.tmod ((9223372036854775807:Nat):Int) 10=((7:Nat):Int):=by decide
   have e2:Int.tdiv ((9223372036854775807:Nat):Int) 10=((922337203685477580:Nat):Int):=by decide
   rw[tg,aI (by decide),e1,e2,rX (by decide),nI (by rw[hs]; omega),wr (by omega) (by omega),zF 922337203685477580 _ _ (by omega) (by omega) (by rw[size_append,hs]; omega)]
   conv=>rhs; rw[Lib.decDigits,dif_neg (by decide)]
   congr 3
   apply wz
   simp
 rw[h2 _ rfl]
 congr 3
 apply wz
 simp
theorem zH {n:Int} (h0 : -9223372036854775807≤n) (h1:n≤9223372036854775807):dC n=some ((dp n,()),()):=by
 by_cases h:n < 0
 ·have hz:=oX (n := -n) (by omega) (by omega)
  have h45:(⟨#[45]⟩:ByteArray).size=1:=rfl
  rw[GI,aI h,wr (by omega) (by omega),show(0 - n:Int)=((-n).toNat:Int) by omega,D4 (by omega),show(((-n).toNat:Nat):Int) = -n by omega]
  simp only[Option.bind_some]
  rw[nI (by omega),←zG h]
 ·rw[show n=(n.toNat:Int) by omega]
  exact D4 (by omega)
theorem vg {n:Int} (h0 : -9223372036854775808≤n) (h1:n≤9223372036854775807):jx n=some ((dp n,()),()):=by
 rw[KS,xB]
 show(if(10:Int)=10∧_∧_ then _ else _:Option _).bind _=_
 rw[if_pos ⟨rfl,h0,h1⟩]
 rfl
def Td:List ByteArray:=[(⟨#[]⟩:ByteArray),(⟨#[35,68,73,86,33]⟩:ByteArray),(⟨#[35,84,89,80,69,33]⟩:ByteArray),(⟨#[35,82,69,70,33]⟩:ByteArray),(⟨#[35,79,86,69,82,33]⟩:ByteArray),(⟨#[35,67,89,67,76,69,33]⟩:ByteArray)]
def c8 (n:Int):ByteArray:=Td.getD n.toNat eS
theorem xF {n:Int} (h0:0≤n) (h1:n≤5):vZ n=some ((c8 n,()),()):=by
 rw[MH,jg h0 (by show n < 6; omega)]
 rfl
theorem rf {n:Int} (h0:0≤n) (h1:n≤5):oD n=some ((c8 n,()),()):=by
 rw[HD,jg h0 (by show n < 6; omega)]
 rfl
def D5 (n:Int):ByteArray:=if n=1 then⟨#[84,82,85,69]⟩ else⟨#[70,65,76,83,69]⟩
theorem M3 (n:Int):Fg n=some ((D5 n,()),()):=by
 rw[MK]
 unfold D5
 by_cases h:n=1 <;> simp[h]
def cL (v:ax):ByteArray:=if v.1=1 then dp v.2.1 else if v.1=2 then(⟨#[39]⟩:ByteArray)++v.2.2.1 else if v.1=3 then D5 v.2.1 else if v.1=4 then c8 v.2.1 else eS
theorem AM {v:ax} (h:aN v=true) (k:v.1=1) : -1000000000000000≤v.2.1∧v.2.1≤1000000000000000:=by
 unfold aN at h
 rw[if_neg (by omega),if_neg (by omega),if_pos k] at h
 simp only[Bool.and_eq_true,decide_eq_true_eq] at h
 exact bd.1 h.2
theorem LK {v:ax} (h:aN v=true) (k:v.1=3):0≤v.2.1∧v.2.1≤1:=by
 unfold aN at h
 rw[if_neg (by omega),if_neg (by omega),if_neg (by omega),if_pos k] at h
 simp only[Bool.and_eq_true,decide_eq_true_eq] at h
 exact bd.1 h.2
theorem AN {v:ax} (h:aN v=true) (k:v.1=4):1≤v.2.1∧v.2.1≤5:=by
 unfold aN at h
 rw[if_neg (by omega),if_neg (by omega),if_neg (by omega),if_neg (by omega),if_pos k] at h
 simp only[Bool.and_eq_true,decide_eq_true_eq] at h
 exact bd.1 h.2
theorem M4 {v:ax} (h:aN v=true):v.1=0∨v.1=1∨v.1=2∨v.1=3∨v.1=4:=by
 unfold aN at h
 split at h
 ·omega
 ·simp only[Bool.and_eq_true] at h
  have h:=h.2
  split at h
  ·omega
  ·split at h
   ·omega
   ·split at h
    ·omega
    ·split at h
     ·omega
     ·cases h
theorem OS (n:Int):(c8 n).size≤10:=by
 have h : ∀ i:Nat,i < 6→(Td.getD i eS).size≤10:=by decide
 unfold c8
 by_cases hn:n.toNat < 6
 ·exact h _ hn
 ·rw[List.getD_eq_getElem?_getD,List.getElem?_eq_none (by show 6≤n.toNat; omega)]
  decide
theorem OT {v:ax} (h:aN v=true):(cL v).size≤201:=by
 have hs:=it h
 unfold cL
 split
 ·have:=AM h ‹_›
  exact Nat.le_trans (oX (by omega) (by omega)) (by decide)
 ·split
  ·rw[size_append]
   have:(⟨#[39]⟩:ByteArray).size=1:=rfl
   omega
  ·split
   ·unfold D5
    split <;> decide
   ·split
    ·exact Nat.le_trans (OS _) (by decide)
    ·decide
theorem M5 {β:Type} {s:ByteArray} {f:ByteArray→Option β} (h:s.size≤9223372036854775806):cats (⟨#[39]⟩:ByteArray) s f=f ((⟨#[39]⟩:ByteArray)++s):=nI (by
 have:(⟨#[39]⟩:ByteArray).size=1:=rfl
 omega)
theorem gk {v:ax} (hs:v.2.2.1.size≤9223372036854775807):io v=some ((if aN v=true then cL v else eS,()),()):=by
 rw[HA,mB hs,Option.bind_some]
 unfold cL
 cases h:aN v
 ·rfl
 ·have hz:=it h
  simp only[Bool.not_true,Bool.false_eq_true,if_false,if_true,beq_iff_eq]
  by_cases h1:v.1=1
  ·have:=AM h h1
   simp[h1,zH (n:=v.2.1) (by omega) (by omega)]
  by_cases h2:v.1=2
  ·simp only[h2,if_true,M5 (s:=v.2.2.1) (by omega)]
   rfl
  by_cases h3:v.1=3
  ·simp[h3,M3]
  by_cases h4:v.1=4
  ·have:=AN h h4
   simp[h4,xF (n:=v.2.1) (by omega) (by omega)]
  simp[h1,h2,h3,h4]
theorem yv {v:ax} (h:aN v=true):fE v=some ((cL v,()),()):=by
 rw[HE]
 unfold cL
 have hz:=it h
 simp only[beq_iff_eq]
 by_cases h1:v.1=1
 ·have:=AM h h1
  simp[h1,vg (n:=v.2.1) (by omega) (by omega)]
 by_cases h2:v.1=2
 ·simp only[h2,if_true,M5 (s:=v.2.2.1) (by omega)]
  rfl
 by_cases h3:v.1=3
 ·have:=LK h h3
  simp only[h3,if_true]
  rw[if_neg (by decide),if_neg (by decide),if_neg (by decide),if_neg (by decide),jg (by omega) (by show v.2.1 < 2; omega)]
  unfold D5
  by_cases h5:v.2.1=1
  ·rw[h5]
   rfl
  ·rw[show v.2.1=0 by omega]
   rfl
 by_cases h4:v.1=4
 ·have:=AN h h4
  simp[h4,rf (n:=v.2.1) (by omega) (by omega)]
 simp[h1,h2,h3,h4]
section
variable {a b:ax} (ha:a.2.2.1.size≤9223372036854775807) (hb:b.2.2.1.size≤9223372036854775807)
include ha hb
end
def Cv (x y:Int):Int:=if x < y then -1 else if y < x then 1 else 0
theorem GJ (x y:Int):iP x y=some ((Cv x y,()),()):=by
 rw[xy,qN,qN]
 unfold Cv
 simp
 by_cases h:x < y
 ·simp[h]
 ·by_cases h2:y < x <;> simp[h,h2]
theorem JC {l:List Int} (hl:l.length≤100) : ∀(ys pre:List Int),l=pre++ys→mO 0 l (l.length:Int) (pre.length:Int)=some (((ys.find? fun y=>decide (y≠0)).getD 0,()),())
 | [],pre,he=>by
  rw[tr,aE (ct he)]
  rfl
 | y :: ys,pre,he=>by
  rw[tr,aI (cK he),bU he,bk he (by omega),JC hl ys _ (aZ he)]
  by_cases h:y=0
  ·simp[h]
  ·simp[h]
theorem QB {l:List Int} (hl:l.length≤100):xo l=some (((l.find? fun y=>decide (y≠0)).getD 0,()),()):=by
 rw[HC]
 exact JC hl l [] rfl
section
variable {op:Int} {a b:ax} (ha:a.2.2.1.size≤9223372036854775807) (hb:b.2.2.1.size≤9223372036854775807)
include ha hb
end
end Go.Proofs.YtddiiceaindlhaaGreatDoor.Abs
set_option linter.unusedVariables false
set_option linter.unusedSimpArgs false
set_option linter.unusedSectionVars false
namespace Go.Proofs.YtddiiceaindlhaaGreatDoor.Abs
open Go
abbrev p0:aA:=((0,0,()),false,false,())
abbrev aa.kids (x:aa):List Int:=x.2.2.2.2.2.1
def jW (op k:Int):Bool:=if op=5 then(decide (k=2) || decide (k=3)) else if bz op 1 7=true then bz k 1 10 else if bz op 8 10=true then decide (k=1) else false
def kl (x:aa):Int:=(List.length x.2.2.2.2.2.1:Int)
def bH (x:aa):Bool :=
 if x.1=1 then decide (x.2.1=0) && decide (x.2.2.2.1=p0) && decide (x.2.2.2.2.1=p0) && decide (kl x=0) && aN x.2.2.1 && !decide (x.2.2.1.1=0) && (!decide (x.2.2.1.1=1) || decide (0≤x.2.2.1.2.1))
 else if x.1=2 then decide (x.2.1=0) && decide (x.2.2.1=v0) && decide (x.2.2.2.2.1=p0) && decide (kl x=0) && ao x.2.2.2.1.1
 else if x.1=3 then decide (x.2.1=0) && decide (x.2.2.1=v0) && decide (kl x=0) && cf (x.2.2.2.1.1,x.2.2.2.2.1.1,())
 else if x.1=4 then decide (x.2.1=0) && decide (x.2.2.1=v0) && decide (x.2.2.2.1=p0) && decide (x.2.2.2.2.1=p0) && decide (kl x=1)
 else if x.1=5 then bz x.2.1 1 11 && decide (x.2.2.1=v0) && decide (x.2.2.2.1=p0) && decide (x.2.2.2.2.1=p0) && decide (kl x=2)
 else if x.1=6 then jW x.2.1 (kl x) && decide (x.2.2.1=v0) && decide (x.2.2.2.1=p0) && decide (x.2.2.2.2.1=p0)
 else false
theorem QC {a b:aA}:(bC bg a b=true)=(a=b):=propext (nK rfl)
theorem QD {a b:ax}:(bC bn a b=true)=(a=b):=propext (nK rfl)
theorem Rr (a b:aA):bC bg a b=decide (a=b):=by
 rw[Bool.eq_iff_iff,decide_eq_true_eq,QC]
theorem Rs (a b:ax):bC bn a b=decide (a=b):=by
 rw[Bool.eq_iff_iff,decide_eq_true_eq,QD]
theorem M6 (op k:Int):Ff op k=some ((jW op k,()),()):=by
 rw[MG]
 unfold jW bz
 simp only[beq_iff_eq,decide_eq_true_eq,ge_iff_le,M2]
 by_cases h:op=1∨op=2∨op=3∨op=4∨op=5∨op=6∨op=7∨op=8∨op=9∨op=10
 ·by_cases hk:1≤k <;> by_cases hk2:k=2 <;> rcases h with rfl | rfl | rfl | rfl | rfl | rfl | rfl | rfl | rfl | rfl <;> simp[hk,hk2] <;> omega
 ·have h1:op≠1:=by omega
  have h2:op≠2:=by omega
  have h3:op≠3:=by omega
  have h4:op≠4:=by omega
  have h5:op≠5:=by omega
  have h6:op≠6:=by omega
  have h7:op≠7:=by omega
  have h8:op≠8:=by omega
  have h9:op≠9:=by omega
  have h10:op≠10:=by omega
  have h11 : ¬(1≤op∧op≤7):=by omega
  have h12 : ¬(8≤op∧op≤10):=by omega
  simp only[h1,h2,h3,h4,h5,h6,h7,h8,h9,h10,h11,h12,if_false]
theorem fO {x:aa} (h:x.2.2.1.2.2.1.size≤9223372036854775807):bv x=some ((bH x,()),()):=by
 rw[Jj]
 unfold bH kl
 simp only[mB h,gG,xE,eJ,M6,Option.bind_some,beq_iff_eq,bne_iff_ne,ne_eq,QC,QD,Rr,Rs,M2,v0,ge_iff_le]
 generalize (List.length x.2.2.2.2.2.1:Int)=k
 by_cases h1:x.1=1
 ·by_cases a1:x.2.1=0 <;> by_cases a2:x.2.2.2.1=p0 <;> by_cases a3:x.2.2.2.2.1=p0 <;> by_cases a4:k=0 <;> cases ov:aN x.2.2.1 <;> by_cases a5:x.2.2.1.1=0 <;> by_cases a6:x.2.2.1.1=1 <;> simp[a1,a2,a3,a4,a5,a6,h1,ov]
 by_cases h2:x.1=2
 ·by_cases a1:x.2.1=0 <;> by_cases a2:x.2.2.1=(0,0,eS,()) <;> by_cases a3:x.2.2.2.2.1=p0 <;> by_cases a4:k=0 <;> simp[a1,a2,a3,a4,h2]
 by_cases h3:x.1=3
 ·by_cases a1:x.2.1=0 <;> by_cases a2:x.2.2.1=(0,0,eS,()) <;> by_cases a4:k=0 <;> simp[a1,a2,a4,h3]
 by_cases h4:x.1=4
 ·by_cases a1:x.2.1=0 <;> by_cases a2:x.2.2.1=(0,0,eS,()) <;> by_cases a3:x.2.2.2.1=p0 <;> by_cases a4:x.2.2.2.2.1=p0 <;> simp[a1,a2,a3,a4,h4]
 by_cases h5:x.1=5
 ·cases hi:bz x.2.1 1 11 <;> by_cases a2:x.2.2.1=(0,0,eS,()) <;> by_cases a3:x.2.2.2.1=p0 <;> by_cases a4:x.2.2.2.2.1=p0 <;> simp[a2,a3,a4,h5,hi]
 by_cases h6:x.1=6
 ·cases hi:jW x.2.1 k <;> by_cases a2:x.2.2.1=(0,0,eS,()) <;> by_cases a3:x.2.2.2.1=p0 <;> simp[a2,a3,h6,hi]
 simp[h1,h2,h3,h4,h5,h6]
theorem D6 {x:aa} (h:x.2.2.1.2.2.1.size≤9223372036854775807):sW x=some ((bH x,()),()):=by
 have c1 : ∀ a:aA,(p0=a)=(a=p0):=fun a=>propext eq_comm
 have c2 : ∀ a:ax,((0,0,eS,())=a)=(a=(0,0,eS,())):=fun a=>propext eq_comm
 rw[DW,lj,Cr]
 unfold bH kl jW
 simp only[vf h,pO,lZ,jG,Option.bind_some,beq_iff_eq,bne_iff_ne,ne_eq,QC,QD,Rr,Rs,M2,v0,ge_iff_le,c1,c2]
 generalize (List.length x.2.2.2.2.2.1:Int)=k
 by_cases h1:x.1=1
 ·simp only[h1,if_true]
  by_cases a1:x.2.1=0 <;> by_cases a2:x.2.2.2.1=p0 <;> by_cases a3:x.2.2.2.2.1=p0 <;> by_cases a4:k=0 <;> cases aN x.2.2.1 <;> by_cases a5:x.2.2.1.1=0 <;> by_cases a6:x.2.2.1.1=1 <;> by_cases a7:x.2.2.1.2.1 < 0 <;> have a8:(0≤x.2.2.1.2.1) = ¬x.2.2.1.2.1 < 0:=propext (by omega) <;> simp[a1,a2,a3,a4,a5,a6,a7,a8]
 by_cases h2:x.1=2
 ·have e:cf (x.2.2.2.1.1,x.2.2.2.1.1,())=ao x.2.2.2.1.1:=by
   unfold cf
   simp
  by_cases a1:x.2.1=0 <;> by_cases a2:x.2.2.1=(0,0,eS,()) <;> by_cases a3:x.2.2.2.2.1=p0 <;> by_cases a4:k=0 <;> cases hr:ao x.2.2.2.1.1 <;> simp[a1,a2,a3,a4,h2,e,hr]
 by_cases h3:x.1=3
 ·by_cases a1:x.2.1=0 <;> by_cases a2:x.2.2.1=(0,0,eS,()) <;> by_cases a4:k=0 <;> cases hr:cf (x.2.2.2.1.1,x.2.2.2.2.1.1,()) <;> simp[a1,a2,a4,h3,hr]
 by_cases h4:x.1=4
 ·by_cases a1:x.2.1=0 <;> by_cases a2:x.2.2.1=(0,0,eS,()) <;> by_cases a3:x.2.2.2.1=p0 <;> by_cases a4:x.2.2.2.2.1=p0 <;> by_cases a5:k=1 <;> simp[a1,a2,a3,a4,a5,h4]
 by_cases h5:x.1=5
 ·cases hi:bz x.2.1 1 11 <;> by_cases a2:x.2.2.1=(0,0,eS,()) <;> by_cases a3:x.2.2.2.1=p0 <;> by_cases a4:x.2.2.2.2.1=p0 <;> by_cases a5:k=2 <;> simp[a2,a3,a4,a5,h5,hi]
 by_cases h6:x.1=6
 ·by_cases a2:x.2.2.1=(0,0,eS,()) <;> by_cases a3:x.2.2.2.1=p0 <;> by_cases a4:x.2.2.2.2.1=p0 <;> simp only[a2,a3,a4,h6,if_true,if_false,decide_true,decide_false,Bool.and_false,Bool.and_true]
  all_goals
   generalize x.2.1=op
   unfold bz
   by_cases b1:1≤op∧op≤10
   ·by_cases b2:op=5
    ·subst b2
     by_cases b3:2≤k∧k≤3
     ·have:k=2∨k=3:=by omega
      rcases this with rfl | rfl <;> simp
     ·have : ¬k=2:=by omega
      have : ¬k=3:=by omega
      simp[b3, *]
    ·by_cases b3:8≤op
     ·have b4 : ¬(op≤7):=by omega
      have b5:op≤10:=by omega
      by_cases b6:k=1 <;> simp[b1,b2,b3,b4,b5,b6]
     ·have b4:op≤7:=by omega
      by_cases b6:1≤k∧k≤10 <;> simp[b1,b2,b3,b4,b6]
   ·have b2 : ¬op=5:=by omega
    have b3 : ¬(1≤op∧op≤7):=by omega
    have b4 : ¬(8≤op∧op≤10):=by omega
    simp[b1,b2,b3,b4]
 simp[h1,h2,h3,h4,h5,h6]
end Go.Proofs.YtddiiceaindlhaaGreatDoor.Abs
set_option linter.unusedVariables false
set_option linter.unusedSimpArgs false
set_option linter.unusedSectionVars false
namespace Go.Proofs.YtddiiceaindlhaaGreatDoor.Abs
open Go
def ez (f:List aa) (i:Int):Bool:=decide ((f.getD i.toNat af.dflt).1=3)
def ff (f:List aa) (k:Int):aa:=f.getD k.toNat af.dflt
def d7 (c:Int→Option (Int×Nat)) (f:List aa) (call:Bool):List Int→Int→Nat→Option (Int×Nat)
 | [],cur,h=>some (cur,h+1)
 | kid :: l,cur,h=>if kid=cur - 1∧0≤kid∧(ez f kid=true→call=true) then(c kid).bind fun p=>d7 c f call l p.1 (max h p.2) else none
def cY (f:List aa):Nat→Int→Option (Int×Nat)
 | 0,_=>none
 | n+1,k=>if 0≤k then match f[k.toNat]? with
  | none=>none
  | some x=>if bH x=true then d7 (cY f n) f (decide (x.1=6)) x.2.2.2.2.2.1.reverse k 0 else none
  else none
def oY (f:List aa) (i:Nat) (x:aa):Prop:=bH x=true ∧ ∀ k∈x.2.2.2.2.2.1,0≤k∧k < i∧(ez f k=true→x.1=6)
theorem qR {c:Int→Option (Int×Nat)} {f:List aa} {call:Bool} (hc : ∀ k s h,c k=some (s,h)→0≤s∧s≤k ∧ ∀ i:Nat,s≤i→(i:Int)≤k → ∃ x,f[i]? = some x∧oY f i x) :
  ∀(l:List Int) (cur:Int) (h:Nat) (s:Int) (h':Nat),0≤cur→d7 c f call l cur h=some (s,h')→0≤s∧s≤cur∧h+1≤h'∧(∀ i:Nat,s≤i→(i:Int) < cur → ∃ x,f[i]? = some x∧oY f i x) ∧ ∀ k∈l,0≤k∧k < cur∧(ez f k=true→call=true)
 | [],cur,h,s,h',h0,e=>by
  simp only[d7,Option.some.injEq,Prod.mk.injEq] at e
  obtain⟨rfl,rfl⟩:=e
  exact⟨h0,Int.le_refl _,Nat.le_refl _,fun i h1 h2=>by omega,fun k hk=>by cases hk⟩
 | kid :: l,cur,h,s,h',h0,e=>by
  simp only[d7] at e
  split at e
  ·rename_i hk
   rw[Option.bind_eq_some_iff] at e
   obtain⟨⟨t,ht⟩,e1,e2⟩:=e
   obtain⟨a1,a2,a3⟩:=hc _ _ _ e1
   obtain⟨b1,b2,b3,b4,b5⟩:=qR hc l t (max h ht) s h' a1 e2
   refine⟨b1,by omega,by omega,fun i h1 h2 => ?_,fun k hm => ?_⟩
   ·by_cases hi:(i:Int) < t
    ·exact b4 i h1 hi
    ·exact a3 i (by omega) (by omega)
   ·rcases List.mem_cons.1 hm with rfl | hm
    ·exact⟨hk.2.1,by omega,hk.2.2⟩
    ·have:=b5 k hm
     exact⟨this.1,by omega,this.2.2⟩
  ·cases e
theorem fj (f:List aa) : ∀(n:Nat) (k s:Int) (h:Nat),cY f n k=some (s,h)→0≤s∧s≤k ∧ ∀ i:Nat,s≤i→(i:Int)≤k → ∃ x,f[i]? = some x∧oY f i x
 | 0,_,_,_,e=>by cases e
 | n+1,k,s,h,e=>by
  simp only[cY] at e
  split at e
  ·rename_i h0
   split at e
   ·cases e
   ·rename_i x hx
    split at e
    ·rename_i ho
     obtain⟨b1,b2,b3,b4,b5⟩:=qR (fj f n) _ _ _ _ _ h0 e
     refine⟨b1,b2,fun i h1 h2 => ?_⟩
     by_cases hi:(i:Int) < k
     ·exact b4 i h1 hi
     ·have hik:i=k.toNat:=by omega
      refine⟨x,by rw[hik,hx],ho,fun k' hk' => ?_⟩
      have:=b5 k' (by simpa using hk')
      exact⟨this.1,by omega,fun ha=>by simpa using this.2.2 ha⟩
    ·cases e
  ·cases e
theorem RZ {f:List aa} {n:Nat} {k s:Int} {h:Nat} (e:cY f n k=some (s,h)):1≤h:=by
 cases n with
 | zero=>cases e
 | succ n =>
  simp only[cY] at e
  split at e
  ·rename_i h0
   split at e
   ·cases e
   ·split at e
    ·exact Nat.le_trans (by omega) (qR (fj f n) _ _ _ _ _ h0 e).2.2.1
    ·cases e
  ·cases e
def mS (deep:Int):Option (Int×Nat)→Int
 | some (s,h)=>if deep+h≤12 then s else -1
 | none => -1
theorem dE {n:Int} (h0 : -1000000000≤n) (h1:n≤1000000000):IntKind.i64.wrap n=n:=wr (by omega) (by omega)
section
variable {f:List aa} (hl:f.length≤10000000) (hs : ∀ x∈f,x.2.2.1.2.2.1.size≤9223372036854775807)
include hl hs
theorem D7 {n:Nat} (ih : ∀(k deep:Int),0≤k→k < n→k < f.length→0≤deep→deep≤12→xp f k deep=some ((mS deep (cY f n k),()),())) {x:aa} {k:Int} (h0:0≤k) (hk:f[k.toNat]? = some x) (hkn:k≤n) (hkl:x.2.2.2.2.2.1.length≤10000000) :
  ∀(r suf:List Int) (cur:Int) (h:Nat) (deep:Int),x.2.2.2.2.2.1=r.reverse++suf→0≤cur→cur≤k→0≤deep→deep+h+1≤12→pN f k deep cur ((r.length:Int) - 1)=some ((mS deep (d7 (cY f n) f (decide (x.1=6)) r cur h),()),())
 | [],suf,cur,h,deep,he,c0,c1,d0,d1=>by
  rw[BN,aE (by simp)]
  simp only[d7,mS]
  rw[if_pos (by omega)]
 | kid :: r,suf,cur,h,deep,he,c0,c1,d0,d1=>by
  have hkl2:k < (f.length:Int):=by
   have:=(List.getElem?_eq_some_iff.1 hk).1
   omega
  have he':x.2.2.2.2.2.1=r.reverse++kid :: suf:=by rw[he]; simp
  have hlen:(((kid :: r).length:Int) - 1)=((r.reverse).length:Int):=by simp
  rw[BN,aI (by rw[hlen]; exact nn _),dZ h0 hk,hlen,bU he',dE (n:=cur - 1) (by omega) (by omega)]
  simp only[d7]
  by_cases e1:kid=cur - 1
  ·rw[if_neg (by simp[e1])]
   by_cases e2:kid < 0
   ·rw[aI e2,if_neg (by omega)]
    rfl
   ·rw[aE e2]
    have hkd:kid < (f.length:Int):=by omega
    obtain⟨y,hy⟩ : ∃ y,f[kid.toNat]? = some y:=⟨f[kid.toNat]'(by omega),List.getElem?_eq_getElem _⟩
    rw[dZ (by omega) hy]
    have har:ez f kid=decide (y.1=3):=by
     unfold ez
     rw[List.getD_eq_getElem?_getD,hy]
     rfl
    have go:((xp f kid (IntKind.i64.wrap (deep+1))).bind fun z1=>if decide (z1.1.1 < 0)=true then some ((-1,()),()) else pN f k deep z1.1.1 (IntKind.i64.wrap (((r.reverse).length:Int) - 1)))=some ((mS deep ((cY f n kid).bind fun p=>d7 (cY f n) f (decide (x.1=6)) r p.1 (max h p.2)),()),()):=by
     have hlr:(r.reverse).length≤10000000:=by
      rw[he',List.length_append] at hkl
      omega
     rw[dE (by omega) (by omega),dE (by omega) (by omega),ih kid (deep+1) (by omega) (by omega) hkd (by omega) (by omega),Option.bind_some]
     cases hc:cY f n kid with
     | none=>rfl
     | some p =>
      obtain⟨t,ht⟩:=p
      have ha:=fj f n _ _ _ hc
      by_cases hd:deep+1+ht≤12
      ·have er:mS (deep+1) (some (t,ht))=t:=if_pos hd
       simp only[er,Option.bind_some]
       rw[aE (by omega),List.length_reverse,D7 ih h0 hk hkn hkl r (kid :: suf) t (max h ht) deep he' (by omega) (by omega) d0 (by omega)]
      ·have er:mS (deep+1) (some (t,ht)) = -1:=if_neg hd
       simp only[er,Option.bind_some]
       rw[aI (by decide)]
       cases hq:d7 (cY f n) f (decide (x.1=6)) r t (max h ht) with
       | none=>rfl
       | some q =>
        obtain⟨s',h'⟩:=q
        have:=(qR (fj f n) _ _ _ _ _ (by omega) hq).2.2.1
        simp only[mS]
        rw[if_neg (by omega)]
    by_cases e3:y.1=3
    ·rw[if_pos (by simp[e3]),dZ h0 hk]
     by_cases e4:x.1=6
     ·rw[if_neg (by simp[e4]),if_pos ⟨e1,by omega,fun _=>by simp[e4]⟩]
      exact go
     ·rw[if_pos (by simp[e4]),if_neg (by rw[har]; simp[e3,e4])]
      rfl
    ·rw[if_neg (by simp[e3]),if_pos ⟨e1,by omega,fun h=>by rw[har] at h; simp[e3] at h⟩]
     exact go
  ·rw[if_pos (by simpa using e1),if_neg (fun h=>e1 h.1)]
   rfl
theorem JD : ∀(n:Nat) (k deep:Int),0≤k→k < n→k < f.length→0≤deep→deep≤12→(∀ x∈f,x.2.2.2.2.2.1.length≤10000000)→xp f k deep=some ((mS deep (cY f n k),()),())
 | 0,k,deep,h0,h1,_,_,_,_=>by omega
 | n+1,k,deep,h0,h1,h2,d0,d1,hkl=>by
  obtain⟨x,hx⟩ : ∃ y,f[k.toNat]? = some y:=⟨f[k.toNat]'(by omega),List.getElem?_eq_getElem _⟩
  have hm:x∈f:=List.mem_of_getElem? hx
  rw[Qy,aE (by omega)]
  by_cases hd:deep≥12
  ·rw[aI hd]
   cases hc:cY f (n+1) k with
   | none=>rfl
   | some p =>
    obtain⟨s,h⟩:=p
    have:=RZ hc
    simp only[mS]
    rw[if_neg (by omega)]
  ·have:=hkl x hm
   rw[aE hd,dZ h0 hx,D6 (hs x hm),Option.bind_some,dZ h0 hx,dE (by omega) (by omega)]
   simp only[cY,if_pos h0,hx]
   cases ho:bH x with
   | false=>rfl
   | true =>
    simp only[Bool.not_true,Bool.false_eq_true,if_false,if_true]
    have:=D7 hl hs (n:=n) (fun k deep a b c d e=>JD n k deep a b c d e hkl) h0 hx (by omega) this x.2.2.2.2.2.1.reverse [] k 0 deep (by simp) h0 (Int.le_refl _) d0 (by omega)
    rw[List.length_reverse] at this
    exact this
def FA:Option (Int×Nat)→Int
 | some (s,_)=>s
 | none => -1
theorem zI {n:Nat} (A : ∀(i:Nat) (x:aa),f[i]? = some x→oY f i x) (ih : ∀(k:Int),0≤k→k < n→k < f.length→v6 f k=some ((FA (cY f n k),()),())) {x:aa} {k:Int} (h0:0≤k) (hk:f[k.toNat]? = some x) (hkn:k≤n) (hkl:x.2.2.2.2.2.1.length≤10000000) :
  ∀(r suf:List Int) (cur:Int) (h:Nat),x.2.2.2.2.2.1=r.reverse++suf→0≤cur→cur≤k→rN f k (cur - 1) ((r.length:Int) - 1)=some ((FA (d7 (cY f n) f (decide (x.1=6)) r cur h),()),())
 | [],suf,cur,h,he,c0,c1=>by
  have hkl2:k < (f.length:Int):=by
   have:=(List.getElem?_eq_some_iff.1 hk).1
   omega
  rw[yi,aE (by simp),dE (by omega) (by omega)]
  simp only[d7,FA]
  congr 3
  omega
 | kid :: r,suf,cur,h,he,c0,c1=>by
  have hkl2:k < (f.length:Int):=by
   have:=(List.getElem?_eq_some_iff.1 hk).1
   omega
  have he':x.2.2.2.2.2.1=r.reverse++kid :: suf:=by rw[he]; simp
  have hlen:(((kid :: r).length:Int) - 1)=((r.reverse).length:Int):=by simp
  have hmem:kid∈x.2.2.2.2.2.1:=by rw[he']; simp
  have hst:=(A _ _ hk).2 kid hmem
  rw[yi,aI (by rw[hlen]; exact nn _)]
  simp only[d7]
  by_cases e0:cur - 1 < 0
  ·rw[aI e0,if_neg (by omega)]
   rfl
  ·rw[aE e0,dZ h0 hk,hlen,bU he']
   by_cases e1:kid=cur - 1
   ·have hkd:kid < (f.length:Int):=by omega
    have hlr:(r.reverse).length≤10000000:=by
     rw[he',List.length_append] at hkl
     omega
    rw[if_neg (by simp[e1]),if_pos ⟨e1,hst.1,fun ha=>by simpa using hst.2.2 ha⟩,←e1,ih kid hst.1 (by omega) hkd,Option.bind_some,dE (n:=(r.reverse.length:Int) - 1) (by omega) (by omega)]
    cases hc:cY f n kid with
    | none=>rfl
    | some p =>
     obtain⟨t,ht⟩:=p
     have ha:=fj f n _ _ _ hc
     have er:FA (some (t,ht))=t:=rfl
     simp only[er,Option.bind_some]
     rw[aE (by omega),dE (n:=t - 1) (by omega) (by omega),List.length_reverse,zI A ih h0 hk hkn hkl r (kid :: suf) t (max h ht) he' (by omega) (by omega)]
   ·rw[if_pos (by simpa using e1),if_neg (fun h=>e1 h.1)]
    rfl
theorem D8 (A : ∀(i:Nat) (x:aa),f[i]? = some x→oY f i x) (hkl : ∀ x∈f,x.2.2.2.2.2.1.length≤10000000) : ∀(n:Nat) (k:Int),0≤k→k < n→k < f.length→v6 f k=some ((FA (cY f n k),()),())
 | 0,k,h0,h1,_=>by omega
 | n+1,k,h0,h1,h2=>by
  obtain⟨x,hx⟩ : ∃ y,f[k.toNat]? = some y:=⟨f[k.toNat]'(by omega),List.getElem?_eq_getElem _⟩
  have hm:x∈f:=List.mem_of_getElem? hx
  have hk:=hkl x hm
  rw[MI,dZ h0 hx,dE (n:=k - 1) (by omega) (by omega),dE (by omega) (by omega)]
  simp only[cY,if_pos h0,hx,(A _ _ hx).1,if_true]
  have:=zI hl hs (n:=n) A (D8 A hkl n) h0 hx (by omega) hk x.2.2.2.2.2.1.reverse [] k 0 (by simp) h0 (Int.le_refl _)
  rw[List.length_reverse] at this
  exact this
def mb (c:Int→Option (Int×Nat)):List Int→Nat
 | []=>0
 | k :: l=>max (((c k).map (·.2)).getD 0) (mb c l)
omit hl hs in
theorem Cw (c:Int→Option (Int×Nat)) (k:Int) : ∀ l,mb c (l++[k])=max (mb c l) (((c k).map (·.2)).getD 0)
 | []=>by simp[mb]
 | y :: l=>by
  simp only[List.cons_append,mb,Cw c k l]
  omega
omit hl hs in
theorem LL (c:Int→Option (Int×Nat)) : ∀ l,mb c l.reverse=mb c l
 | []=>rfl
 | y :: l=>by
  rw[List.reverse_cons,Cw,LL c l]
  simp only[mb]
  omega
omit hl hs in
theorem GK {c:Int→Option (Int×Nat)} {call:Bool} : ∀(l:List Int) (cur:Int) (h:Nat) (s:Int) (h':Nat),d7 c f call l cur h=some (s,h')→h'=max h (mb c l)+1 ∧ ∀ k∈l,∃ p,c k=some p
 | [],cur,h,s,h',e=>by
  simp only[d7,Option.some.injEq,Prod.mk.injEq] at e
  exact⟨by simp only[mb]; omega,fun k hk=>by cases hk⟩
 | kid :: l,cur,h,s,h',e=>by
  simp only[d7] at e
  split at e
  ·rw[Option.bind_eq_some_iff] at e
   obtain⟨⟨t,ht⟩,e1,e2⟩:=e
   obtain⟨b1,b2⟩:=GK l t (max h ht) s h' e2
   refine⟨?_,fun k hk => ?_⟩
   ·simp only[mb,e1,Option.map_some,Option.getD_some]
    omega
   ·rcases List.mem_cons.1 hk with rfl | hk
    ·exact⟨_,e1⟩
    ·exact b2 k hk
  ·cases e
theorem zJ {n:Nat} {c:Int→Option (Int×Nat)} (ih : ∀(k:Int) (s:Int) (h:Nat),k < n→c k=some (s,h)→v7 f k=some (((h:Int),()),())) {x:aa} {k:Int} (h0:0≤k) (hk:f[k.toNat]? = some x) (hkn:k≤n) (hkl:x.2.2.2.2.2.1.length≤10000000) (hall : ∀ k'∈x.2.2.2.2.2.1,(∃ p,c k'=some p)∧k' < k) (hb:mb c x.2.2.2.2.2.1≤10000000) :
  ∀(ys pre:List Int),x.2.2.2.2.2.1=pre++ys→rO f k (mb c pre:Int) (pre.length:Int)=some ((((mb c x.2.2.2.2.2.1+1:Nat):Int),()),())
 | [],pre,he=>by
  have:pre=x.2.2.2.2.2.1:=by rw[he]; simp
  rw[yj,dZ h0 hk,aE (ct he),this,dE (by omega) (by omega)]
  rfl
 | y :: ys,pre,he=>by
  obtain⟨⟨⟨s,h⟩,hc⟩,hlt⟩:=hall y (by rw[he]; simp)
  rw[yj,dZ h0 hk,aI (cK he),dZ h0 hk,bU he,ih y s h (by omega) hc,Option.bind_some,bk he (by omega)]
  have:(if((mb c pre:Nat):Int) < (h:Int) then(h:Int) else((mb c pre:Nat):Int))=(mb c (pre++[y]):Int):=by
   rw[Cw,hc]
   simp only[Option.map_some,Option.getD_some]
   split <;> omega
  rw[this]
  exact zJ ih h0 hk hkn hkl hall hb ys _ (aZ he)
theorem xG (hkl : ∀ x∈f,x.2.2.2.2.2.1.length≤10000000) : ∀(n:Nat) (k s:Int) (h:Nat),cY f n k=some (s,h)→n≤10000000→h≤n∧v7 f k=some (((h:Int),()),())
 | 0,_,_,_,e,_=>by cases e
 | n+1,k,s,h,e,hn=>by
  have hall:=fj f _ _ _ _ e
  simp only[cY] at e
  split at e
  ·rename_i h0
   split at e
   ·cases e
   ·rename_i x hx
    split at e
    ·have hm:x∈f:=List.mem_of_getElem? hx
     obtain⟨b1,b2⟩:=GK _ _ _ _ _ e
     have hst:=qR (fj f n) _ _ _ _ _ h0 e
     have hhm:mb (cY f n) x.2.2.2.2.2.1≤n:=by
      have : ∀ l:List Int,mb (cY f n) l≤n:=by
       intro l
       induction l with
       | nil=>exact Nat.zero_le _
       | cons y l ih =>
        simp only[mb]
        cases hc:cY f n y with
        | none=>simpa using ih
        | some p =>
         have:=(xG hkl n y p.1 p.2 hc (by omega)).1
         simp only[Option.map_some,Option.getD_some]
         omega
      exact this _
     rw[LL] at b1
     refine⟨by omega,?_⟩
     rw[MJ]
     have hk2 : ∀ k'∈x.2.2.2.2.2.1,(∃ p,cY f n k'=some p)∧k' < k:=fun k' hk'=>⟨b2 k' (by simpa using hk'),(hst.2.2.2.2 k' (by simpa using hk')).2.1⟩
     have:=zJ hl hs (n:=k.toNat) (c:=cY f n) (fun k' s' h' _ hc=>(xG hkl n k' s' h' hc (by omega)).2) h0 hx (by omega) (hkl x hm) hk2 (by omega) x.2.2.2.2.2.1 [] rfl
     rw[b1]
     have hz:max 0 (mb (cY f n) x.2.2.2.2.2.1)=mb (cY f n) x.2.2.2.2.2.1:=by omega
     rw[hz]
     exact this
    ·cases e
  ·cases e
end
end Go.Proofs.YtddiiceaindlhaaGreatDoor.Abs
set_option linter.unusedVariables false
set_option linter.unusedSimpArgs false
set_option linter.unusedSectionVars false
namespace Go.Proofs.YtddiiceaindlhaaGreatDoor.Abs
open Go
def oZ (f:List aa):Bool:=match cY f f.length ((f.length:Int) - 1) with
 | some (s,h)=>decide (s=0) && (!ez f ((f.length:Int) - 1) && decide ((h:Int)≤12))
 | none=>false
def fp (f:List aa):Bool:=bz (f.length:Int) 1 60 && oZ f
theorem l4 {f:List aa} (h:fp f=true) (i:Nat) (x:aa) (hx:f[i]? = some x):oY f i x:=by
 unfold fp oZ at h
 simp only[Bool.and_eq_true] at h
 obtain⟨h1,h2⟩:=h
 have h1:=bd.1 h1
 cases hc:cY f f.length ((f.length:Int) - 1) with
 | none=>rw[hc] at h2; cases h2
 | some p =>
  obtain⟨s,d⟩:=p
  rw[hc] at h2
  simp only[Bool.and_eq_true,decide_eq_true_eq] at h2
  have hl:=(List.getElem?_eq_some_iff.1 hx).1
  obtain⟨y,hy,hs⟩:=(fj f _ _ _ _ hc).2.2 i (by omega) (by omega)
  rw[hx] at hy
  rw[Option.some.inj hy]
  exact hs
section
variable {f:List aa} (hl:f.length≤10000000) (hs : ∀ x∈f,x.2.2.1.2.2.1.size≤9223372036854775807) (hkl : ∀ x∈f,x.2.2.2.2.2.1.length≤10000000)
include hl hs hkl
theorem jX:rL f=some ((fp f,()),()):=by
 rw[HI]
 unfold fp
 simp only[jG,Option.bind_some]
 cases hb:bz (f.length:Int) 1 60 with
 | false=>rfl
 | true =>
  have hb:=bd.1 hb
  obtain⟨x,hx⟩ : ∃ y,f[((f.length:Int) - 1).toNat]? = some y:=⟨f[((f.length:Int) - 1).toNat]'(by omega),List.getElem?_eq_getElem _⟩
  have har:ez f ((f.length:Int) - 1)=decide (x.1=3):=by
   unfold ez
   rw[List.getD_eq_getElem?_getD,hx]
   rfl
  have hfr:=JD hl hs f.length ((f.length:Int) - 1) 0 (by omega) (by omega) (by omega) (by decide) (by decide) hkl
  simp only[if_true]
  rw[dE (by omega) (by omega),dZ (by omega) hx,hfr]
  unfold oZ
  rw[har]
  cases hc:cY f f.length ((f.length:Int) - 1) with
  | none=>by_cases h3:x.1=3 <;> simp[h3,mS]
  | some p =>
   obtain⟨s,h⟩:=p
   have hp:=(fj f _ _ _ _ hc).1
   by_cases h3:x.1=3
   ·simp[h3]
   ·by_cases h4:(h:Int)≤12
    ·simp[h3,mS,h4,M2]
    ·simp[h3,mS,h4]
theorem uC {x:aa} {i:Nat} (hi:f[i]? = some x) (hil:i≤10000000) : ∀(ys pre:List Int),x.2.2.2.2.2.1=pre++ys →
  jR f (i:Int) (pre.length:Int)=if(ys.all fun k=>bz k 0 ((i:Int) - 1) && (!ez f k || decide (x.1=6)))=true then eE f ((i+1:Nat):Int) else some ((false,()),())
 | [],pre,he=>by
  rw[tw,dZ (nn _) (by simpa using hi),aE (ct he),dE (by omega) (by omega)]
  simp
 | y :: ys,pre,he=>by
  have hm:x∈f:=List.mem_of_getElem? hi
  have:=hkl x hm
  rw[tw,dZ (nn _) (by simpa using hi),aI (cK he),dZ (nn _) (by simpa using hi),bU he,eJ,Option.bind_some,dE (n:=(i:Int) - 1) (by omega) (by omega),bk he (by omega)]
  have ih:=uC hi hil ys _ (aZ he)
  have hlt:=(List.getElem?_eq_some_iff.1 hi).1
  cases hy:bz y 0 ((i:Int) - 1) with
  | false=>simp[hy]
  | true =>
   have hy2:=bd.1 hy
   obtain⟨z,hz⟩ : ∃ z,f[y.toNat]? = some z:=⟨f[y.toNat]'(by omega),List.getElem?_eq_getElem _⟩
   have har:ez f y=decide (z.1=3):=by
    unfold ez
    rw[List.getD_eq_getElem?_getD,hz]
    rfl
   simp only[Bool.not_true,Bool.false_eq_true,if_false]
   rw[dZ (by omega) hz]
   by_cases h3:z.1=3
   ·rw[if_pos (by simp[h3]),dZ (nn _) (by simpa using hi)]
    by_cases h6:x.1=6
    ·rw[if_neg (by simp[h6]),ih]
     simp[hy,har,h6]
    ·rw[if_pos (by simp[h6])]
     simp[hy,har,h3,h6]
   ·rw[if_neg (by simp[h3]),ih]
    simp[hy,har,h3]
def l5 (f:List aa) (i:Nat):Bool:=match f[i]? with
 | some x=>bH x && x.2.2.2.2.2.1.all fun k=>bz k 0 ((i:Int) - 1) && (!ez f k || decide (x.1=6))
 | none=>true
omit hl hs hkl in
theorem BR {i:Nat} {x:aa} (hx:f[i]? = some x):l5 f i=true↔oY f i x:=by
 unfold l5 oY
 rw[hx]
 simp only[Bool.and_eq_true,List.all_eq_true,bd,Bool.or_eq_true,Bool.not_eq_true',decide_eq_true_eq]
 constructor
 ·rintro⟨h1,h2⟩
  refine⟨h1,fun k hk => ?_⟩
  obtain⟨⟨a,b⟩,c⟩:=h2 k hk
  refine⟨a,by omega,fun ha => ?_⟩
  rcases c with c | c
  ·rw[c] at ha
   cases ha
  ·exact c
 ·rintro⟨h1,h2⟩
  refine⟨h1,fun k hk => ?_⟩
  obtain⟨a,b,c⟩:=h2 k hk
  refine⟨⟨a,by omega⟩,?_⟩
  cases ha:ez f k with
  | true=>exact .inr (c ha)
  | false=>exact .inl rfl
theorem D9 (hne:1≤f.length) (A : ∀(i:Nat) (x:aa),f[i]? = some x→oY f i x):eE f (f.length:Int)=some ((oZ f,()),()):=by
 obtain⟨x,hx⟩ : ∃ y,f[((f.length:Int) - 1).toNat]? = some y:=⟨f[((f.length:Int) - 1).toNat]'(by omega),List.getElem?_eq_getElem _⟩
 have har:ez f ((f.length:Int) - 1)=decide (x.1=3):=by
  unfold ez
  rw[List.getD_eq_getElem?_getD,hx]
  rfl
 rw[tq,aE (Int.lt_irrefl _),dE (by omega) (by omega),D8 hl hs A hkl f.length _ (by omega) (by omega) (by omega),Option.bind_some,dZ (by omega) hx]
 unfold oZ
 rw[har]
 cases hc:cY f f.length ((f.length:Int) - 1) with
 | none=>rfl
 | some p =>
  obtain⟨s,h⟩:=p
  have er:FA (some (s,h))=s:=rfl
  simp only[er]
  by_cases h0:s=0
  ·by_cases h3:x.1=3
   ·simp[h0,h3]
   ·rw[if_pos (by simp[h0]),if_pos (by simp[h3]),(xG hl hs hkl _ _ _ _ hc hl).2]
    simp[h0,h3]
  ·rw[if_neg (by simp[h0])]
   simp[h0]
theorem Ea {i:Nat} (hi:i < f.length):eE f (i:Int)=if l5 f i=true then eE f ((i+1:Nat):Int) else some ((false,()),()):=by
 obtain⟨x,hx⟩ : ∃ y,f[i]? = some y:=⟨f[i],List.getElem?_eq_getElem _⟩
 have hm:x∈f:=List.mem_of_getElem? hx
 rw[tq,aI (by omega),dZ (nn _) (by simpa using hx),fO (hs x hm),Option.bind_some]
 have es:l5 f i=(bH x && x.2.2.2.2.2.1.all fun k=>bz k 0 ((i:Int) - 1) && (!ez f k || decide (x.1=6))):=by
  unfold l5
  rw[hx]
 rw[es]
 cases ho:bH x with
 | false=>simp
 | true =>
  have:=uC hl hs hkl hx (by omega) x.2.2.2.2.2.1 [] rfl
  simp only[Bool.not_true,Bool.false_eq_true,if_false,Bool.true_and]
  exact this
open Classical in
theorem tx : ∀(n i:Nat),i+n=f.length→eE f (i:Int)=if(∀ j,i≤j→j < f.length→l5 f j=true) then eE f (f.length:Int) else some ((false,()),())
 | 0,i,h=>by
  have:i=f.length:=by omega
  rw[this,if_pos (fun j h1 h2=>by omega)]
 | n+1,i,h=>by
  rw[Ea hl hs hkl (by omega),tx n (i+1) (by omega)]
  by_cases h1:l5 f i=true
  ·rw[if_pos h1]
   by_cases h2 : ∀ j,i+1≤j→j < f.length→l5 f j=true
   ·rw[if_pos h2,if_pos (fun j a b=>by
     by_cases hj:j=i
     ·rw[hj]; exact h1
     ·exact h2 j (by omega) b)]
   ·rw[if_neg h2,if_neg (fun h3=>h2 fun j a b=>h3 j (by omega) b)]
  ·rw[if_neg h1,if_neg (fun h3=>h1 (h3 i (Nat.le_refl _) (by omega)))]
theorem mT:oA f=some ((fp f,()),()):=by
 rw[Hz]
 by_cases h1:(f.length:Int) < 1
 ·rw[aI h1]
  have:bz (f.length:Int) 1 60=false:=by simp[bz]; omega
  simp[fp,this]
 ·rw[aE h1]
  by_cases h2:(f.length:Int) > 60
  ·rw[aI h2]
   have:bz (f.length:Int) 1 60=false:=by simp[bz]; omega
   simp[fp,this]
  ·have hb:bz (f.length:Int) 1 60=true:=bd.2 (by omega)
   rw[aE h2,show(0:Int)=((0:Nat):Int) from rfl,tx hl hs hkl f.length 0 (by omega)]
   by_cases A : ∀ j,0≤j→j < f.length→l5 f j=true
   ·rw[if_pos A,D9 hl hs hkl (by omega) fun i x hx=>(BR hx).1 (A i (Nat.zero_le _) (List.getElem?_eq_some_iff.1 hx).1)]
    simp[fp,hb]
   ·rw[if_neg A]
    have:fp f=false:=by
     cases ho:fp f with
     | false=>rfl
     | true =>
      refine absurd (fun j _ hj => ?_) A
      have hx:f[j]? = some f[j]:=List.getElem?_eq_getElem _
      exact(BR hx).2 (l4 ho j _ hx)
    rw[this]
end
end Go.Proofs.YtddiiceaindlhaaGreatDoor.Abs
