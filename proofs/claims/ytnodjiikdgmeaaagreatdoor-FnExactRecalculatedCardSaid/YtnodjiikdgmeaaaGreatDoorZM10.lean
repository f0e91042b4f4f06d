/- Plain laws: which cells a cell leans on, on both sides; the graph. -/
import Derived.Test.YtnodjiikdgmeaaaGreatDoorZM9
set_option linter.unusedVariables false
set_option linter.unusedSimpArgs false
set_option linter.unusedSectionVars false
namespace Go.Proofs.YtnodjiikdgmeaaaGreatDoor.Abs
open Go
section
variable {α:Type}
theorem ux {p:α→Bool} : ∀(l:List α) (n:Nat),decide (r5 p l n≥0)=l.any p
 | [],n=>by
  show decide ((-1:Int)≥0)=false
  decide
 | c :: l,n=>by
  unfold r5
  rw[List.any_cons]
  by_cases h:p c=true
  ·rw[if_pos h,h,Bool.true_or]
   exact decide_eq_true (by omega)
  ·rw[if_neg h,ux l (n+1)]
   simp[h]
theorem vI (l:List α) (d:α):(List.range l.length).map (fun i=>l.getD i d)=l:=by
 apply List.ext_getElem
 ·simp
 ·intro i h1 h2
  simp[List.getD_eq_getElem?_getD,h2]
theorem oc {l:List α} {d:α} {i:Nat} (h:i < l.length):l[i]? = some (l.getD i d):=by
 rw[List.getD_eq_getElem?_getD,List.getElem?_eq_getElem h]
 rfl
theorem qw {l:List α} {d:α} {i:Nat} (h:i < l.length):l.getD i d∈l:=List.mem_of_getElem? (oc h)
end
theorem jB {α β:Type} {xs:List α} {i:Nat} {y d:α} {f:α→Option β} (h:xs[i]? = some y):ix xs (i:Int) d f=f y:=bP (nn _) h
theorem LN {f:List aa} (hf:f.length≤60) : ∀(ys pre:List aa) (acc:List aJ),f=pre++ys→acc.length≤pre.length→kw f (f.length:Int) (pre.length:Int) acc=some ((acc++cy ys,()),())
 | [],pre,acc,h,ha=>by
  rw[xw,aw (bi h)]
  simp[cy]
 | y :: ys,pre,acc,h,ha=>by
  have hlen:pre.length≤60:=by
   have:=congrArg List.length h
   simp only[List.length_append,List.length_cons] at this
   omega
  have ih:=LN hf ys (pre++[y])
  rw[xw,az (bq h),bk h,aL h (by omega)]
  simp only[xJ,Option.bind_some]
  have hsum:acc++[cT y]++cy ys=acc++(cT y :: cy ys):=by simp
  have happ:(acc.length+([cT y]:List aJ).length)*32≤140737488355328:=by simp only[List.length_singleton]; omega
  by_cases h2:y.1=2
  ·rw[if_pos (by simpa using h2),bv happ,ih (acc++[cT y]) (av h) (by simp only[List.length_append,List.length_singleton]; omega),hsum]
   simp[cy,qX,h2]
  ·rw[if_neg (by simpa using h2)]
   by_cases h3:y.1=3
   ·rw[if_pos (by simpa using h3),bv happ,ih (acc++[cT y]) (av h) (by simp only[List.length_append,List.length_singleton]; omega),hsum]
    simp[cy,qX,h3]
   ·rw[if_neg (by simpa using h3),ih acc (av h) (by simp only[List.length_append,List.length_singleton]; omega)]
    simp[cy,qX,h2,h3]
theorem Sn {f:List aa} (hl:f.length≤60):yz f=some ((cy f,()),()):=by
 rw[MH,show(0:Int)=(([]:List aa).length:Int) from rfl,LN hl f [] [] rfl (Nat.le_refl _)]
 rfl
theorem LO {f:List aa} (hf:f.length≤60) : ∀(ys pre:List aa) (acc:List aJ),f=pre++ys→acc.length≤pre.length→kv f (pre.length:Int) acc=some ((acc++cy ys,()),())
 | [],pre,acc,h,ha=>by
  rw[xt,aw (bi h)]
  simp[cy]
 | y :: ys,pre,acc,h,ha=>by
  have hlen:pre.length≤60:=by
   have:=congrArg List.length h
   simp only[List.length_append,List.length_cons] at this
   omega
  have ih:=LO hf ys (pre++[y])
  rw[xt,az (bq h),bk h,aL h (by omega)]
  have hsum:acc++[cT y]++cy ys=acc++(cT y :: cy ys):=by simp
  have happ : ∀ a:aJ,(acc.length+([a]:List aJ).length)*32≤140737488355328:=fun a=>by simp only[List.length_singleton]; omega
  by_cases h2:y.1=2
  ·have ha2:(y.2.2.2.1.1,y.2.2.2.1.1,())=cT y:=by unfold cT; rw[if_pos h2]
   rw[if_pos (by simpa using h2)]
   simp only[bk h]
   rw[ha2,bv (happ _),ih (acc++[cT y]) (av h) (by simp only[List.length_append,List.length_singleton]; omega),hsum]
   simp[cy,qX,h2]
  ·have ha3:(y.2.2.2.1.1,y.2.2.2.2.1.1,())=cT y:=by unfold cT; rw[if_neg h2]
   rw[if_neg (by simpa using h2)]
   by_cases h3:y.1=3
   ·rw[if_pos (by simpa using h3)]
    simp only[bk h]
    rw[ha3,bv (happ _),ih (acc++[cT y]) (av h) (by simp only[List.length_append,List.length_singleton]; omega),hsum]
    simp[cy,qX,h3]
   ·rw[if_neg (by simpa using h3),ih acc (av h) (by simp only[List.length_append,List.length_singleton]; omega)]
    simp[cy,qX,h2,h3]
theorem V7 {f:List aa} (hf:fV f=true):Dp f=some ((cy f,()),()):=by
 have hs:=Br hf
 have hl:=hs.1
 rw[Mx,nc (f:=f) (by omega) hs.2.1 hs.2.2,hf]
 simp only[Option.bind_some,Bool.not_true,Bool.false_eq_true,if_false]
 rw[show(0:Int)=(([]:List aa).length:Int) from rfl,LO hl f [] [] rfl (Nat.le_refl _)]
 rfl
noncomputable def FW (x:ByteArray):List aJ:=cy ((df x).getD [])
theorem P5 (f:List aa):(cy f).length≤f.length:=by
 unfold cy
 rw[List.length_map]
 exact List.length_filter_le _ _
theorem GW {x:ByteArray} (hx:x.size≤9223372036854775807):((df x).getD []).length≤60:=by
 cases h:df x with
 | none=>exact Nat.zero_le _
 | some f=>exact(Br (lN h hx)).1
theorem Cg {x:ByteArray} (hx:x.size≤9223372036854775807):(FW x).length≤60:=Nat.le_trans (P5 _) (GW hx)
theorem CY {x:ByteArray} (hx:x.size≤9223372036854775807):tH x=some ((FW x,()),()):=by
 rw[My,UA hx,Option.bind_some]
 unfold FW
 cases h:df x with
 | none=>rfl
 | some f =>
  dsimp only[Option.isSome_some,Option.getD_some]
  rw[if_neg (by decide),V7 (lN h hx)]
  rfl
theorem T1 {ar:List aJ} {r:al} (hl:ar.length≤1000000000):bL ar (ar.length:Int) 0 r=some ((r5 (fun a=>dI a r) ar 0,()),(r,())):=by
 have:=zo (s:=ar) (d:=bp.dflt) (p:=fun a=>dI a r) (P:=fun j=>bL ar (ar.length:Int) j r) (F:=fun j=>some ((j,()),(r,()))) (by omega) (fun j=>by
  rw[fM]
  simp only[CK,Bh,Option.bind_some]) ar [] rfl
 exact this
theorem Vd {ar:List aJ} {n i:Int} {r:al}:eA ar n i r.1 r.2.1=bL ar n i r:=by
 rw[ml,fM]
 simp only[Pe,CK] <;> rfl
theorem LP {ar:List aJ} (r:al) (hl:ar.length≤1000000000):Ja ar r=some ((ar.any fun a=>dI a r,()),()):=by
 rw[Tk,mi,nH,Vd,T1 hl]
 simp only[Option.bind_some,ux]
theorem CZ {l:List al} {r:al} (hl:l.length≤1000000000) : ∀(ys pre:List al),l=pre++ys→u9 l (pre.length:Int) r.1 r.2.1=some ((decide (r∈ys),()),())
 | [],pre,h=>by
  rw[AY,aw (bi h)]
  simp
 | y :: ys,pre,h=>by
  rw[AY,az (bq h),bk h,aL h (by omega),CZ hl ys _ (av h)]
  show(if bN ao y r=true then _ else _)=_
  by_cases e:y=r
  ·rw[if_pos (by rw[Bs]; exact e)]
   simp[e]
  ·rw[if_neg (by rw[Bs]; exact e)]
   simp[Ne.symm e]
theorem rK {l:List al} (r:al) (hl:l.length≤1000000000):lm l r=some ((decide (r∈l),()),()):=by
 rw[Rf]
 exact CZ hl l [] rfl
theorem Ve {l:List al} {r:al} (hl:l.length≤1000000000):kB l r=some ((decide (r∈l),()),()):=by
 have h:fj l (l.length:Int) 0 r.1 r.2.1=some ((r5 (fun y=>bN ao r y) l 0,()),()):=zo (s:=l) (d:=ao.dflt) (p:=fun y=>bN ao r y) (P:=fun j=>fj l (l.length:Int) j r.1 r.2.1) (F:=fun j=>some ((j,()),())) (by omega) (fun j=>vZ) l [] rfl
 rw[vY,zY,h]
 simp only[Option.bind_some,ux]
 have e:(l.any fun y=>bN ao r y)=decide (r∈l):=by
  rw[Bool.eq_iff_iff,List.any_eq_true,decide_eq_true_eq]
  constructor
  ·rintro⟨y,hy,h⟩
   rw[Bs] at h
   rw[h]
   exact hy
  ·intro h
   exact⟨r,h,by rw[Bs]⟩
 rw[e]
section
variable {s:List aj} (hl:s.length≤1000000) {ar:List aJ} (ha:ar.length≤1000000)
include hl ha
theorem LQ {y:aj} {pre ys:List aj} (h:s=pre++y :: ys) {acc:List al} : ∀(bs pa:List aJ) (b:Bool),ar=pa++bs→mW s (pre.length:Int) b (pa.length:Int) acc ar=if(b || bs.any fun a=>dI a y.1)=true then app acc [y.1] 16 (fun y3=>iZ s (IntKind.i64.wrap ((pre.length:Int)+1)) y3 ar) else iZ s (IntKind.i64.wrap ((pre.length:Int)+1)) acc ar
 | [],pa,b,e=>by
  rw[xx,aw (bi e),bk h,List.any_nil,Bool.or_false]
 | a :: bs,pa,b,e=>by
  have ih:=LQ h (acc:=acc) bs (pa++[a])
  rw[xx,az (bq e),aL e (by omega)]
  cases b with
  | true =>
   rw[if_pos rfl,ih true (av e)]
   simp only[Bool.true_or]
  | false =>
   have hg:List.getD ar (Int.toNat (pa.length:Int)) bp.dflt=a:=by rw[e]; exact lY
   rw[if_neg (by decide),bk h,lI e,hg,uo,Option.bind_some,ih _ (av e)]
   simp only[List.any_cons,Bool.false_or]
theorem Bv : ∀(ys pre:List aj) (acc:List al),s=pre++ys→acc.length≤pre.length→iZ s (pre.length:Int) acc ar=some ((acc++(ys.filter fun c=>ar.any fun a=>dI a c.1).map (·.1),()),())
 | [],pre,acc,h,hb=>by
  rw[xu,aw (bi h)]
  simp
 | y :: ys,pre,acc,h,hb=>by
  have hlen:s.length=pre.length+(ys.length+1):=by rw[h]; simp
  have e:=LQ hl ha h (acc:=acc) ar [] false rfl
  rw[xu,az (bq h)]
  refine e.trans ?_
  rw[aL h (by omega),Bool.false_or]
  by_cases c:(ar.any fun a=>dI a y.1)=true
  ·rw[if_pos c,bv (by simp only[List.length_singleton]; omega),Bv ys _ _ (av h) (by simp only[List.length_append,List.length_singleton]; omega),List.filter_cons_of_pos (p:=fun c:aj=>ar.any fun a=>dI a c.1) c]
   simp
  ·rw[if_neg c,Bv ys _ _ (av h) (by simp only[List.length_append,List.length_singleton]; omega),List.filter_cons_of_neg (p:=fun c:aj=>ar.any fun a=>dI a c.1) c]
end
theorem T2 {s:List aj} (h:bQ s=true) (r:al):(jj r s).size≤200:=by
 rcases T0 (q:=r) (eQ h) with⟨c,hc,_,e⟩ | ⟨_,e⟩
 ·rw[←e]
  exact pD h c hc
 ·rw[e]
  decide
theorem Vf {s:List aj} (h:bQ s=true) (r:al):nq s r=some (((s.filter fun c=>(FW (jj r s)).any fun a=>dI a c.1).map (·.1),()),()):=by
 have h1:=bd h
 have h2:(jj r s).size≤9223372036854775807:=Nat.le_trans (T2 h r) (by decide)
 have h3:=Cg h2
 rw[Mz,LK (by omega),Option.bind_some,CY h2,Option.bind_some]
 dsimp only
 exact Bv (by omega) (by omega) s [] [] rfl (Nat.le_refl _)
theorem Vg (s:List aj) (ar:List aJ):(sq s ar).map (aC s)=(s.filter fun c=>ar.any fun a=>dI a c.1).map (·.1):=by
 have key : ∀ t:List aj,(List.range s.length).map (fun i=>s.getD i ap.dflt)=t→(sq s ar).map (aC s)=(t.filter fun c=>ar.any fun a=>dI a c.1).map (·.1):=by
  rintro _ rfl
  rw[List.filter_map,List.map_map]
  rfl
 exact key s (vI s _)
theorem Oc {s:List aj} (h:rZ s) {i:Nat} (hi:i < s.length):jj (aC s i) s=fo s i:=Bu h (qw hi)
theorem LR {s:List aj} (h:bQ s=true) {i:Nat} (hi:i < s.length):nq s (aC s i)=some (((bB s i).map (aC s),()),()):=by
 rw[Vf h,Oc (eQ h) hi]
 unfold bB
 rw[Vg]
 rfl
theorem LS {s pre ys:List aj} {y:aj} (h:s=pre++y :: ys):aC s pre.length=y.1:=by
 unfold aC
 rw[h,List.getD_eq_getElem?_getD]
 simp
noncomputable def gF (s:List aj):List (List aa):=s.map fun c=>(df c.2.1).getD []
noncomputable def gL (s:List aj):List (List Int):=s.map fun c=>(sq s (FW c.2.1)).map fun k:Nat=>(k:Int)
noncomputable def gr (s:List aj):List aj×(List (List aa)×(List (List Int)×Unit)):=(s,gF s,gL s,())
theorem P6 {s:List aj} {i:Nat} (h:i < s.length):(gF s)[i]? = some ((df (fo s i)).getD []):=by
 unfold gF
 rw[List.getElem?_map,oc (d:=ap.dflt) h]
 rfl
theorem Jg {s:List aj} {i:Nat} (h:i < s.length):(gL s)[i]? = some ((bB s i).map fun k:Nat=>(k:Int)):=by
 unfold gL
 rw[List.getElem?_map,oc (d:=ap.dflt) h]
 rfl
theorem V8 (s:List aj):(gL s).length=s.length:=by
 unfold gL
 rw[List.length_map]
theorem tf (s:List aj) (ar:List aJ):(sq s ar).length≤s.length:=by
 unfold sq
 have:=List.length_filter_le (fun k=>ar.any fun a=>dI a (aC s k)) (List.range s.length)
 rw[List.length_range] at this
 exact this
section
variable {s:List aj} (hl:s.length≤1000000) (hs : ∀ c∈s,c.2.1.size≤9223372036854775807)
include hl
theorem LU {x0 x1:List aj} {x2 x3:Int} {x7 x11:List aj} {x12 x14:List (List aa)} {x13 x15:List (List Int)} {f:List aa} {ar:List aJ} (ha:ar.length≤1000000) : ∀(ys pre:List aj) (acc:List Int),s=pre++ys→acc.length≤pre.length →
  lH x0 x1 x2 x3 s (s.length:Int) (pre.length:Int) x7 f ar acc x11 x12 x13 x14 x15=app x14 [f] 24 fun y3=>app x15 [acc++((List.range' pre.length ys.length).filter fun k=>ar.any fun a=>dI a (aC s k)).map fun k:Nat=>(k:Int)] 24 fun y4=>lC x0 x1 x2 (IntKind.i64.wrap (x3+1)) x7 x11 x12 x13 y3 y4
 | [],pre,acc,h,hb=>by
  rw[vu,aw (bi h)]
  simp
 | y :: ys,pre,acc,h,hb=>by
  have hlen:s.length=pre.length+(ys.length+1):=by rw[h]; simp
  have ih:=LU (x0:=x0) (x1:=x1) (x2:=x2) (x3:=x3) (x7:=x7) (x11:=x11) (x12:=x12) (x13:=x13) (x14:=x14) (x15:=x15) (f:=f) ha ys (pre++[y])
  have e0:(pre++[y]).length=pre.length+1:=by simp
  rw[vu,az (bq h),bk h,LP _ (by omega),Option.bind_some,aL h (by omega)]
  rw[List.length_cons,List.range'_succ,List.filter_cons,LS h]
  rw[e0] at ih
  dsimp only
  by_cases c:(ar.any fun a=>dI a y.1)=true
  ·rw[if_pos c,if_pos c,bv (by simp only[List.length_singleton]; omega),e0,ih _ (av h) (by simp only[List.length_append,List.length_singleton]; omega)]
   simp
  ·rw[if_neg c,if_neg c,e0,ih _ (av h) (by omega)]
include hs
theorem Ip : ∀(ys pre:List aj) (fs:List (List aa)) (ls:List (List Int)),s=pre++ys→fs.length=pre.length→ls.length=pre.length →
  lC s s (s.length:Int) (pre.length:Int) s [] [] [] fs ls=some (((s,fs++ys.map (fun c=>(df c.2.1).getD []),ls++ys.map (fun c=>(sq s (FW c.2.1)).map fun k:Nat=>(k:Int)),()),()),())
 | [],pre,fs,ls,h,h1,h2=>by
  rw[vl,aw (bi h)]
  simp
 | y :: ys,pre,fs,ls,h,h1,h2=>by
  have hlen:s.length=pre.length+(ys.length+1):=by rw[h]; simp
  have hy:y.2.1.size≤9223372036854775807:=hs y (by rw[h]; simp)
  have h3:=Cg hy
  have hg:=LU hl (x0:=s) (x1:=s) (x2:=(s.length:Int)) (x3:=(pre.length:Int)) (x7:=s) (x11:=[]) (x12:=[]) (x13:=[]) (x14:=fs) (x15:=ls) (f:=(df y.2.1).getD []) (ar:=FW y.2.1) (by omega) s [] [] rfl (Nat.le_refl _)
  rw[vl,az (bq h),bk h,Wr hy,Option.bind_some,Sn (GW hy),Option.bind_some]
  refine hg.trans ?_
  rw[bv (by simp only[List.length_singleton]; omega),bv (by simp only[List.length_singleton]; omega),aL h (by omega),Ip ys _ _ _ (av h) (by simp[h1]) (by simp[h2])]
  have e:((List.range' ([]:List aj).length s.length).filter fun k=>(FW y.2.1).any fun a=>dI a (aC s k))=sq s (FW y.2.1):=by
   unfold sq
   rw[List.range_eq_range']
   rfl
  rw[e]
  simp
theorem Bw:u5 s=some ((gr s,()),()):=by
 rw[Ky]
 exact Ip hl hs s [] [] [] rfl rfl rfl
end
open Classical in
noncomputable def wj (s:List aj) (i:Nat):Bool:=decide (dH (bB s) i i)
open Classical in
theorem lO {s:List aj} {i:Nat}:wj s i=true↔dH (bB s) i i:=by
 unfold wj
 exact⟨fun h=>of_decide_eq_true h,fun h=>decide_eq_true h⟩
theorem qx : ∀(l:List Bool) (i:Nat),i < l.length→l.getD i false=false→(l.set i true).count false+1=l.count false
 | [],i,h,_=>by simp at h
 | b :: l,0,_,e=>by
  have e:b=false:=e
  subst e
  simp
 | b :: l,i+1,h,e=>by
  have:=qx l i (by simpa using h) e
  rw[List.set_cons_succ,List.count_cons,List.count_cons]
  omega
theorem lP (l:List Bool) (i k:Nat) (h:i < l.length):(l.set i true).getD k false=if k=i then true else l.getD k false:=by
 rw[List.getD_eq_getElem?_getD,List.getD_eq_getElem?_getD,List.getElem?_set]
 by_cases e:k=i
 ·subst e
  simp[h]
 ·rw[if_neg (fun x=>e x.symm),if_neg e]
theorem uy : ∀(n:Nat) (l:List Nat),l.Nodup→(∀ k∈l,k < n)→l.length≤n
 | 0,l,_,h=>by
  cases l with
  | nil=>exact Nat.le_refl _
  | cons a l=>have:=h a (by simp); omega
 | n+1,l,hd,h=>by
  by_cases hm:n∈l
  ·have h1:=uy n (l.erase n) (hd.erase n) (fun k hk=>by
    have h2:=(hd.mem_erase_iff).1 hk
    have:=h k h2.2
    have:=h2.1
    omega)
   rw[List.length_erase_of_mem hm] at h1
   omega
  ·have h1:=uy n l hd (fun k hk=>by
    have:=h k hk
    have:k≠n:=fun e=>hm (e ▸ hk)
    omega)
   omega
theorem Od {s:List aj} {i:Nat} (h:i < s.length):aC s i=s[i].1:=by
 unfold aC
 rw[List.getD_eq_getElem?_getD,List.getElem?_eq_getElem h]
 rfl
theorem So {s:List aj} (hs:rZ s) {i j:Nat} (h:i < j) (hj:j < s.length):cU (aC s i) (aC s j)=true:=by
 have hi:i < s.length:=by omega
 rw[Od hi,Od hj]
 exact List.pairwise_iff_getElem.1 hs i j hi hj h
theorem Ch {s:List aj} (hs:rZ s) {i j:Nat} (hi:i < s.length) (hj:j < s.length) (h:aC s i=aC s j):i=j:=by
 rcases Nat.lt_trichotomy i j with k | k | k
 ·exact absurd h (DZ (So hs k hj))
 ·exact k
 ·exact absurd h.symm (DZ (So hs k hi))
theorem LV {s:List aj} (hs:rZ s) {k:Nat} {t:List Nat} (hk:k < s.length) (ht : ∀ j∈t,j < s.length):aC s k∈t.map (aC s)↔k∈t:=by
 rw[List.mem_map]
 constructor
 ·rintro⟨j,hj,e⟩
  rw[←Ch hs (ht j hj) hk e]
  exact hj
 ·intro h
  exact⟨k,h,rfl⟩
theorem hO {s:List aj} {i k:Nat} (h:k∈bB s i):k < s.length:=List.mem_range.1 (Jf i k h)
theorem dH.lt {s:List aj} {i k:Nat} (h:dH (bB s) i k):k < s.length:=by
 cases h with
 | one e=>exact hO e
 | more _ e=>exact hO e
section
variable {s:List aj} (hn:s.length≤120)
include hn
theorem wk {a:Nat} (ha:a < s.length) : ∀(m:Nat) (met:List Bool) (pre ys:List Nat),met.length=s.length→(∀ k∈pre++ys,k < s.length∧dH (bB s) a k)→(∀ k∈bB s a,k∈pre++ys)→(∀ k∈pre,k≠a)→(∀ k∈pre,met.getD k false=true)→(∀ k,met.getD k false=true → ∀ j∈bB s k,j∈pre++ys) →
  met.count false*120+ys.length≤m→met.count false*120+pre.length+ys.length≤20000→fu (a:Int) (pre.length:Int) s (gF s) (gL s) met ((pre++ys).map fun k:Nat=>(k:Int))=some ((wj s a,()),())
 | m,met,pre,[],h0,h1,h2,h3,h4,h5,hm,hb=>by
  have e:wj s a=false:=by
   rw[Bool.eq_false_iff,ne_eq,lO]
   intro h
   have:=dH.closed (Q:=fun k=>k∈pre) (fun k hk=>by simpa using h2 k hk) (fun j hj k hk=>by simpa using h5 j (h4 j hj) k hk) h
   exact h3 _ this rfl
  rw[pM,aw (by simp),e]
 | 0,met,pre,y :: ys,h0,h1,h2,h3,h4,h5,hm,hb=>by
  rw[List.length_cons] at hm
  omega
 | m+1,met,pre,y :: ys,h0,h1,h2,h3,h4,h5,hm,hb=>by
  rw[List.length_cons] at hm hb
  obtain⟨hy,hr⟩:=h1 y (by simp)
  have hg:List.getD ((pre++y :: ys).map fun k:Nat=>(k:Int)) (Int.toNat (pre.length:Int)) 0=(y:Int):=by
   rw[List.getD_eq_getElem?_getD]
   simp
  have hlt:(pre.length:Int) < (((pre++y :: ys).map fun k:Nat=>(k:Int)).length:Int):=by
   simp only[List.length_map,List.length_append,List.length_cons]
   omega
  have hw:IntKind.i64.wrap ((pre.length:Int)+1)=((pre++[y]).length:Int):=by
   rw[kR (by omega) (by omega)]
   simp
  have hmet:Int.toNat (y:Int)=y:=rfl
  rw[pM,az hlt,bu (nn _) hlt,hg]
  by_cases e:y=a
  ·subst e
   rw[if_pos (beq_self_eq_true _),lO.2 hr]
  ·rw[if_neg (by rw[beq_iff_eq]; omega),bu (xs:=met) (nn _) (by omega),hmet]
   by_cases hc:met.getD y false=true
   ·rw[hc,if_neg (by decide),hw,show pre++y :: ys=(pre++[y])++ys by simp]
    refine wk ha m met (pre++[y]) ys h0 (fun k hk=>h1 k (by simpa using hk)) (fun k hk=>by simpa using h2 k hk) (fun k hk => ?_) (fun k hk => ?_) (fun k hk j hj=>by simpa using h5 k hk j hj) (by omega) (by simp only[List.length_append,List.length_singleton]; omega)
    ·rcases List.mem_append.1 hk with hk | hk
     ·exact h3 k hk
     ·rw[List.mem_singleton.1 hk]
      exact e
    ·rcases List.mem_append.1 hk with hk | hk
     ·exact h4 k hk
     ·rw[List.mem_singleton.1 hk]
      exact hc
   ·have hc:met.getD y false=false:=by simpa using hc
    have hcs:=qx met y (by omega) hc
    have hil:=tf s (mw s y)
    have hil:(bB s y).length≤s.length:=hil
    rw[hc,if_pos (by decide),bu (xs:=met) (nn _) (by omega),jB (Jg hy),bv (by simp only[List.length_map,List.length_append,List.length_cons]; omega),hw]
    have eq:((pre++y :: ys).map fun k:Nat=>(k:Int))++((bB s y).map fun k:Nat=>(k:Int))=(((pre++[y])++(ys++bB s y)).map fun k:Nat=>(k:Int)):=by simp
    have em : ∀ k,k∈(pre++[y])++(ys++bB s y)↔k∈pre++y :: ys∨k∈bB s y:=fun k=>by simp[or_assoc]
    rw[eq]
    refine wk ha m (met.set y true) (pre++[y]) (ys++bB s y) (by rw[List.length_set]; exact h0) (fun k hk => ?_) (fun k hk=>(em k).2 (.inl (h2 k hk))) (fun k hk => ?_) (fun k hk => ?_) (fun k hk j hj => ?_) (by rw[List.length_append]; omega) (by simp only[List.length_append,List.length_singleton]; omega)
    ·rcases(em k).1 hk with hk | hk
     ·exact h1 k hk
     ·exact⟨hO hk,.more hr hk⟩
    ·rcases List.mem_append.1 hk with hk | hk
     ·exact h3 k hk
     ·rw[List.mem_singleton.1 hk]
      exact e
    ·rw[lP _ _ _ (by omega)]
     rcases List.mem_append.1 hk with hk | hk
     ·rw[h4 k hk]
      split <;> rfl
     ·rw[List.mem_singleton.1 hk,if_pos rfl]
    ·rw[lP _ _ _ (by omega)] at hk
     rw[em]
     by_cases ek:k=y
     ·subst ek
      exact .inr hj
     ·rw[if_neg ek] at hk
      exact .inl (h5 k hk j hj)
theorem P7 {l:List Int} (h:l.length≤1000000):fA l=some ((l,()),()):=by
 rw[sR]
 unfold eD
 simp only[jJ?,dite_true,Option.bind_some]
 exact if_pos (by omega)
theorem Sp {a:Nat} (ha:a < s.length):j9 (gr s) (a:Int)=some ((wj s a,()),()):=by
 have hil:(bB s a).length≤s.length:=tf s (mw s a)
 rw[Dz]
 show(wF (s.length:Int) 1 false fun y1=>(ix (gL s) (a:Int) ([]:(List Int)) fun y2=>((fA y2).bind fun z1=>(fu (a:Int) 0 s (gF s) (gL s) y1 z1.1.1))))=_
 rw[rt (by omega),jB (Jg ha),P7 hn (by rw[List.length_map]; omega),Option.bind_some]
 have hc:(List.replicate s.length false).count false=s.length:=by simp
 refine wk hn ha (s.length*120+120) (List.replicate s.length false) [] (bB s a) (by simp) (fun k hk => ?_) (fun k hk=>by simpa using hk) (fun k hk=>by cases hk) (fun k hk=>by cases hk) (fun k hk j hj => ?_) (by omega) (by rw[hc,List.length_nil]; omega)
 ·have hk:k∈bB s a:=by simpa using hk
  exact⟨hO hk,.one hk⟩
 ·rw[List.getD_eq_getElem?_getD,List.getElem?_replicate] at hk
  split at hk <;> cases hk
end
def uz:List Nat→List Nat→List Nat
 | t,[]=>t
 | t,k :: ks=>if k∈t then uz t ks else uz (t++[k]) ks
theorem GX : ∀(ks t:List Nat),t.Nodup→(∃ ex,uz t ks=t++ex)∧(uz t ks).Nodup ∧ ∀ j,j∈uz t ks↔j∈t∨j∈ks
 | [],t,h=>⟨⟨[],by simp[uz]⟩,h,fun j=>by simp[uz]⟩
 | k :: ks,t,h=>by
  unfold uz
  by_cases hk:k∈t
  ·rw[if_pos hk]
   obtain⟨h1,h2,h3⟩:=GX ks t h
   refine⟨h1,h2,fun j => ?_⟩
   rw[h3,List.mem_cons]
   constructor
   ·rintro(e | e)
    ·exact .inl e
    ·exact .inr (.inr e)
   ·rintro(e | e | e)
    ·exact .inl e
    ·rw[e]
     exact .inl hk
    ·exact .inr e
  ·rw[if_neg hk]
   have hd:(t++[k]).Nodup:=by
    rw[List.nodup_append]
    refine⟨h,by simp,fun a ha b hb => ?_⟩
    rw[List.mem_singleton.1 hb]
    exact fun e=>hk (e ▸ ha)
   obtain⟨⟨ex,h1⟩,h2,h3⟩:=GX ks (t++[k]) hd
   refine⟨⟨k :: ex,by rw[h1]; simp⟩,h2,fun j => ?_⟩
   rw[h3,List.mem_append,List.mem_singleton,List.mem_cons,or_assoc]
section
variable {s:List aj} (hs:bQ s=true)
include hs
theorem GY {i:Int} {r:al} {more:List Nat} (hm : ∀ k∈more,k < s.length) (hml:more.length≤120) : ∀(ys pre t:List Nat),more=pre++ys→(∀ k∈t,k < s.length)→t.length+ys.length≤1000000 →
  lG s i (pre.length:Int) r.1 r.2.1 (t.map (aC s)) (more.map (aC s))=lz s (IntKind.i64.wrap (i+1)) r.1 r.2.1 ((uz t ys).map (aC s))
 | [],pre,t,h,ht,hb=>by
  have e:=bi h
  rw[vt,aw (by rw[List.length_map]; exact e)]
  rfl
 | y :: ys,pre,t,h,ht,hb=>by
  rw[List.length_cons] at hb
  have hlen:more.length=pre.length+(ys.length+1):=by rw[h]; simp
  have hlt:(pre.length:Int) < ((more.map (aC s)).length:Int):=by rw[List.length_map]; exact bq h
  have hg:List.getD (more.map (aC s)) (Int.toNat (pre.length:Int)) ao.dflt=aC s y:=by
   rw[h,List.getD_eq_getElem?_getD]
   simp
  have hy:=hm y (by rw[h]; simp)
  have hw:IntKind.i64.wrap ((pre.length:Int)+1)=((pre++[y]).length:Int):=aL h (by omega)
  rw[vt,az hlt,bu (nn _) hlt,hg,rK _ (by rw[List.length_map]; omega),Option.bind_some,hw]
  have hd:decide (aC s y∈t.map (aC s))=decide (y∈t):=by
   rw[Bool.eq_iff_iff,decide_eq_true_eq,decide_eq_true_eq]
   exact LV (eQ hs) hy ht
  dsimp only
  rw[hd]
  unfold uz
  by_cases e:y∈t
  ·rw[if_pos e,decide_eq_true e,if_neg (by decide)]
   exact GY hm hml ys _ t (av h) ht (by omega)
  ·rw[if_neg e,decide_eq_false e,if_pos (by decide),bu (nn _) hlt,bv (by simp only[List.length_map,List.length_singleton]; omega),show t.map (aC s)++[aC s y]=(t++[y]).map (aC s) by simp]
   refine GY hm hml ys _ (t++[y]) (av h) (fun k hk => ?_) (by simp only[List.length_append,List.length_singleton]; omega)
   rcases List.mem_append.1 hk with hk | hk
   ·exact ht k hk
   ·rw[List.mem_singleton.1 hk]
    exact hy
theorem LW {a:Nat} (ha:a < s.length) : ∀(m:Nat) (pre ys:List Nat),(pre++ys).Nodup→(∀ k∈pre++ys,k < s.length∧dH (bB s) a k)→(∀ k∈bB s a,k∈pre++ys)→(∀ k∈pre,k≠a)→(∀ k∈pre,∀ j∈bB s k,j∈pre++ys)→s.length≤pre.length+m →
  lz s (pre.length:Int) (aC s a).1 (aC s a).2.1 ((pre++ys).map (aC s))=some ((wj s a,()),())
 | m,pre,[],hd,h1,h2,h3,h5,hm=>by
  have e:wj s a=false:=by
   rw[Bool.eq_false_iff,ne_eq,lO]
   intro h
   have:=dH.closed (Q:=fun k=>k∈pre) (fun k hk=>by simpa using h2 k hk) (fun j hj k hk=>by simpa using h5 j hj k hk) h
   exact h3 _ this rfl
  rw[vj,aw (by simp),e]
 | 0,pre,y :: ys,hd,h1,h2,h3,h5,hm=>by
  have:=uy s.length _ hd fun k hk=>(h1 k hk).1
  rw[List.length_append,List.length_cons] at this
  omega
 | m+1,pre,y :: ys,hd,h1,h2,h3,h5,hm=>by
  have hn:=bd hs
  have hl:=uy s.length _ hd fun k hk=>(h1 k hk).1
  rw[List.length_append,List.length_cons] at hl
  obtain⟨hy,hr⟩:=h1 y (by simp)
  have hg:List.getD ((pre++y :: ys).map (aC s)) (Int.toNat (pre.length:Int)) ao.dflt=aC s y:=by
   rw[List.getD_eq_getElem?_getD]
   simp
  have hlt:(pre.length:Int) < (((pre++y :: ys).map (aC s)).length:Int):=by
   simp only[List.length_map,List.length_append,List.length_cons]
   omega
  have hw:IntKind.i64.wrap ((pre.length:Int)+1)=((pre++[y]).length:Int):=by
   rw[kR (by omega) (by omega)]
   simp
  rw[vj,az hlt,bu (nn _) hlt,hg]
  show(if bN ao (aC s y) (aC s a)=true then _ else _)=_
  by_cases e:y=a
  ·subst e
   rw[if_pos (by rw[Bs]),lO.2 hr]
  ·have e' : ¬aC s y=aC s a:=fun k=>e (Ch (eQ hs) hy ha k)
   have hil:(bB s y).length≤s.length:=tf s (mw s y)
   rw[if_neg (by rw[Bs]; exact e'),bu (nn _) hlt,LR hs hy,Option.bind_some]
   have hin:=GY hs (i:=(pre.length:Int)) (r:=aC s a) (more:=bB s y) (fun k hk=>hO hk) (by omega) (bB s y) [] (pre++y :: ys) rfl (fun k hk=>(h1 k hk).1) (by simp only[List.length_append,List.length_cons]; omega)
   refine hin.trans ?_
   obtain⟨⟨ex,x1⟩,x2,x3⟩:=GX (bB s y) (pre++y :: ys) hd
   have x4:uz (pre++y :: ys) (bB s y)=(pre++[y])++(ys++ex):=by rw[x1]; simp
   rw[x4] at x2 x3
   rw[x4,hw]
   refine LW ha m (pre++[y]) (ys++ex) x2 (fun k hk => ?_) (fun k hk=>(x3 k).2 (.inl (h2 k hk))) (fun k hk => ?_) (fun k hk j hj => ?_) (by simp only[List.length_append,List.length_singleton]; omega)
   ·rcases(x3 k).1 hk with hk | hk
    ·exact h1 k hk
    ·exact⟨hO hk,.more hr hk⟩
   ·rcases List.mem_append.1 hk with hk | hk
    ·exact h3 k hk
    ·rw[List.mem_singleton.1 hk]
     exact e
   ·rcases List.mem_append.1 hk with hk | hk
    ·exact(x3 j).2 (.inl (h5 k hk j hj))
    ·rw[List.mem_singleton.1 hk] at hj
     exact(x3 j).2 (.inr hj)
theorem Sq (i:Nat):(bB s i).Nodup:=by
 unfold bB sq
 exact List.Pairwise.filter _ List.nodup_range
theorem P8 {a:Nat} (ha:a < s.length):u1 s (aC s a)=some ((wj s a,()),()):=by
 rw[Kr,LR hs ha,Option.bind_some]
 refine LW hs ha s.length [] (bB s a) (Sq hs a) (fun k hk => ?_) (fun k hk=>by simpa using hk) (fun k hk=>by cases hk) (fun k hk=>by cases hk) (by omega)
 have hk:k∈bB s a:=by simpa using hk
 exact⟨hO hk,.one hk⟩
end
theorem gc (s:List aj) (F:Nat→ab):(aO s F).length=s.length:=by
 unfold aO
 rw[List.length_map,List.length_range]
theorem zq {s:List aj} {F:Nat→ab} {i:Nat} (h:i < s.length):(aO s F)[i]? = some (aC s i,F i,()):=by
 unfold aO
 rw[List.getElem?_map,List.getElem?_range h]
 rfl
theorem Sr {s:List aj} {F:Nat→ab} {i:Nat} (h:i < s.length) (d:ac):(aO s F).getD i d=(aC s i,F i,()):=by
 rw[List.getD_eq_getElem?_getD,zq h]
 rfl
theorem vJ {s:List aj} {F G:Nat→ab} (h : ∀ k,k < s.length→F k=G k):aO s F=aO s G:=by
 unfold aO
 refine List.map_congr_left fun k hk => ?_
 rw[h k (List.mem_range.1 hk)]
def zQ (F:Nat→ab) (i:Nat) (v:ab):Nat→ab:=fun k=>if k=i then v else F k
theorem T3 {s:List aj} {F:Nat→ab} {i:Nat} (v:ab) (h:i < s.length):(aO s F).set i (aC s i,v,())=aO s (zQ F i v):=by
 apply List.ext_getElem?
 intro k
 rw[List.getElem?_set,gc]
 by_cases e:i=k
 ·subst e
  rw[if_pos rfl,if_pos h,zq h]
  unfold zQ
  rw[if_pos rfl]
 ·rw[if_neg e]
  by_cases hk:k < s.length
  ·rw[zq hk,zq hk]
   unfold zQ
   rw[if_neg (fun x=>e x.symm)]
  ·rw[List.getElem?_eq_none (by rw[gc]; omega),List.getElem?_eq_none (by rw[gc]; omega)]
theorem D0 {β:Type} {s:List aj} {F:Nat→ab} {i:Nat} (v:ab) (h:i < s.length) (k:List ac→β):gj ae.dflt (aO s F) (i:Int) (fun e=>(e.1,v,())) k=k (aO s (zQ F i v)):=by
 unfold gj
 rw[Int.toNat_natCast,Sr h,T3 v h]
theorem C0 (s:List aj) (F:Nat→ab):(aO s F).map (·.1)=s.map (·.1):=by
 have key : ∀ t:List aj,(List.range s.length).map (fun i=>s.getD i ap.dflt)=t→(aO s F).map (·.1)=t.map (·.1):=by
  rintro _ rfl
  unfold aO
  rw[List.map_map,List.map_map]
  rfl
 exact key s (vI s _)
theorem sW {s:List aj} {F:Nat→ab} (hs:bQ s=true) (hF : ∀ k,k < s.length→an (F k)=true):g8 (aO s F)=true:=by
 have h1:=bd hs
 have h2:=eQ hs
 have h3:=(qY.1 hs).2.1
 unfold g8
 rw[Bool.and_eq_true,Bool.and_eq_true,decide_eq_true_eq,List.all_eq_true,gc,C0]
 refine⟨by omega,fun c hc => ?_,LC ?_ (fun a e=>by cases e)⟩
 ·unfold aO at hc
  obtain⟨k,hk,rfl⟩:=List.mem_map.1 hc
  have hk:=List.mem_range.1 hk
  rw[Bool.and_eq_true]
  exact⟨(h3 _ (qw hk)).1,hF k hk⟩
 ·exact List.Pairwise.map _ (fun a b h=>h) h2
theorem Ss (w:ak):an (bo w).1=true:=by
 cases h:(bo w).2 with
 | true=>exact(qn h).1
 | false =>
  rw[K7 h]
  exact PG
theorem Iq {f:List aa} {l:List ac} (h1:fV f=true) (h2:g8 l=true):an (iO f l)=true:=by
 have hs:=Br h1
 have hll:l.length≤120:=by
  unfold g8 at h2
  simp only[Bool.and_eq_true,decide_eq_true_eq] at h2
  omega
 have hv:=n8 h2
 have hl:=hs.1
 obtain⟨_,_,e3⟩:=DS (f:=f) (l:=l) (by omega) (fun c hc=>Nat.le_trans (et (hv c hc)) (by decide)) (by omega) hs.2.1 hs.2.2 h1 h2
 unfold iO
 dsimp only
 split
 ·decide
 ·exact e3
theorem FX {α β:Type} {xs:List α} {i:Int} {k:Option β} (h : ¬(0≤i∧i < (xs.length:Int))):inb xs i k=none:=by
 unfold inb
 by_cases h0:0≤i
 ·rw[if_pos h0,if_neg fun h1=>h ⟨h0,h1⟩]
 ·rw[if_neg h0]
theorem Su (g:List aj×(List (List aa)×(List (List Int)×Unit))) : ∀(n:Nat) (i:Int) (done:List Bool) (out:List ac),done.count false≤n→cq i g.1 g.2.1 g.2.2.1 done out=bh i g done out:=by
 intro n
 induction n with
 | zero =>
  intro i done out hc
  rw[fU,bV]
  by_cases hin:0≤i∧i < (done.length:Int)
  ·simp only[bu hin.1 hin.2]
   by_cases hd:List.getD done i.toNat false=true
   ·rw[if_pos hd,if_pos hd]
   ·have:=qx done i.toNat (by omega) (by simpa using hd)
    omega
  ·rw[FX hin,FX hin]
 | succ n ih =>
  intro i done out hc
  rw[fU,bV]
  by_cases hin:0≤i∧i < (done.length:Int)
  ·simp only[bu hin.1 hin.2]
   by_cases hd:List.getD done i.toNat false=true
   ·rw[if_pos hd,if_pos hd]
   ·have hcs:=qx done i.toNat (by omega) (by simpa using hd)
    have key : ∀ y5:List Int,dM i y5 (y5.length:Int) 0 g.1 g.2.1 g.2.2.1 (done.set i.toNat true) out=bU i y5 (y5.length:Int) 0 g (done.set i.toNat true) out:=by
     intro y5
     rw[kD,ff]
     have k2 : ∀ y,cq y g.1 g.2.1 g.2.2.1 (done.set i.toNat true) out=bh y g (done.set i.toNat true) out:=fun y=>ih y _ out (by omega)
     simp only[k2]
    simp only[key]
  ·rw[FX hin,FX hin]
theorem Vh {x0:Int} {x1:List Int} {x2 x3:Int} {g:List aj×(List (List aa)×(List (List Int)×Unit))} {done:List Bool} {out:List ac}:bU x0 x1 x2 x3 g done out=bE x0 x1 x2 x3 g done out:=by
 rw[ff,db]
section
variable {s:List aj} (hs:bQ s=true) {told:Nat→Bool} {given:Nat→ab}
include hs
theorem cP (i:Nat):(fo s i).size≤9223372036854775807:=by
 by_cases h:i < s.length
 ·exact Nat.le_trans (pD hs _ (qw h)) (by decide)
 ·unfold fo
  rw[List.getD_eq_getElem?_getD,List.getElem?_eq_none (by omega)]
  decide
structure D1 (s:List aj) (told:Nat→Bool) (given:Nat→ab) (P:Nat→Prop) (done:List Bool) (F:Nat→ab):Prop where
 len:done.length=s.length
 val : ∀ k,k < s.length→done.getD k false=true→P k∨F k=cO s told given k
 ok : ∀ k,k < s.length→an (F k)=true
 told : ∀ k,k < s.length→told k=true→done.getD k false=true
structure zr (s:List aj) (done done':List Bool):Prop where
 cnt:done'.count false≤done.count false
 mono : ∀ k,done.getD k false=true→done'.getD k false=true
omit hs in
theorem zr.trans {s:List aj} {a b c:List Bool} (h:zr s a b) (k:zr s b c):zr s a c:=⟨Nat.le_trans k.cnt h.cnt,fun j hj=>k.mono j (h.mono j hj)⟩
def V9 (s:List aj) (told:Nat→Bool) (given:Nat→ab) (n:Nat):Prop := ∀(i:Nat) (P:Nat→Prop) (done:List Bool) (F:Nat→ab),i < s.length→D1 s told given P done F→(∀ p,P p → ¬dH (bB s) p p∧dH (bB s) p i)→done.count false≤n →
 ∃ done' F',bh (i:Int) (gr s) done (aO s F)=some ((()),(done',gr s,aO s F',()))∧D1 s told given P done' F'∧zr s done done'∧done'.getD i false=true
theorem T4 {f:List aa} {F:Nat→ab} {i:Nat} (hf:df (fo s i)=some f) (ho : ∀ k,k < s.length→an (F k)=true) (h : ∀ k∈bB s i,F k=cO s told given k) (ht:told i=false) (hr : ¬dH (bB s) i i):u6 f (aO s F)=some ((cO s told given i,()),()):=by
 have hok:=lN hf (cP hs i)
 have hsm:=Br hok
 have hl:=hsm.1
 have hn:=bd hs
 have hv:=sW hs ho
 have e:iO f (aO s F)=cO s told given i:=by
  rw[zp (cP hs i) hf h,qv (cP hs) i,if_neg (by simp[ht]),hf]
  simp only[if_neg hr]
 rw[TG (by rw[gc]; omega) (fun c hc=>Nat.le_trans (et (n8 hv c hc)) (by decide)) (by omega) hsm.2.1 hsm.2.2 hok hv,e]
theorem Ir {n:Nat} (R:V9 s told given n) {i:Nat} (hi:i < s.length) {f:List aa} (hf:df (fo s i)=some f) (hr : ¬dH (bB s) i i) (ht:told i=false) {P:Nat→Prop} (hP : ∀ p,P p → ¬dH (bB s) p p∧dH (bB s) p i) :
  ∀(ys pre:List Nat) (done:List Bool) (F:Nat→ab),bB s i=pre++ys→D1 s told given (fun k=>P k∨k=i) done F→done.count false≤n→(∀ k∈pre,done.getD k false=true)→done.getD i false=true →
  ∃ done' F',bE (i:Int) ((bB s i).map fun k:Nat=>(k:Int)) ((bB s i).length:Int) (pre.length:Int) (gr s) done (aO s F)=some ((()),(done',gr s,aO s F',()))∧D1 s told given P done' F'∧zr s done done'∧done'.getD i false=true
 | [],pre,done,F,h,hI,hc,hp,hdi=>by
  have hpre:bB s i=pre:=by rw[h]; simp
  have hval : ∀ k∈bB s i,F k=cO s told given k:=by
   intro k hk
   have hk':k∈pre:=hpre ▸ hk
   rcases hI.val k (hO hk) (hp k hk') with(e | e) | e
   ·exact absurd (dH.more (hP k e).2 hk) (hP k e).1
   ·rw[e] at hk
    exact absurd (dH.one hk) hr
   ·exact e
  have hev:=T4 hs hf hI.ok hval ht hr
  have hv:an (cO s told given i)=true:=by
   have:=Iq (lN hf (cP hs i)) (sW hs hI.ok)
   rw[zp (cP hs i) hf hval] at this
   rw[qv (cP hs) i,if_neg (by simp[ht]),hf]
   simp only[if_neg hr]
   exact this
  refine⟨done,zQ F i (cO s told given i),?_,⟨hI.len,fun k hk hd => ?_,fun k hk => ?_,hI.told⟩,⟨Nat.le_refl _,fun _ h=>h⟩,hdi⟩
  ·rw[db,aw (by rw[hpre]; omega)]
   show(ix (gF s) (i:Int) ([]:(List aa)) fun y2=>((u6 y2 (aO s F)).bind fun z2=>(inb (aO s F) (i:Int) (gj (ae.dflt) (aO s F) (i:Int) (fun e=>(e.1,z2.1.1,())) fun w3=>(some ((()),(done,gr s,w3,())))))))=_
   rw[jB (P6 hi),hf]
   show((u6 f (aO s F)).bind fun z2=>_)=_
   rw[hev,Option.bind_some,bu (nn _) (by rw[gc]; omega),D0 _ hi]
  ·unfold zQ
   by_cases e:k=i
   ·rw[if_pos e,e]
    exact .inr rfl
   ·rw[if_neg e]
    rcases hI.val k hk hd with(h1 | h1) | h1
    ·exact .inl h1
    ·exact absurd h1 e
    ·exact .inr h1
  ·unfold zQ
   by_cases e:k=i
   ·rw[if_pos e]
    exact hv
   ·rw[if_neg e]
    exact hI.ok k hk
 | y :: ys,pre,done,F,h,hI,hc,hp,hdi=>by
  have hy:y∈bB s i:=by rw[h]; simp
  have hyl:=hO hy
  have hil:(bB s i).length≤s.length:=tf s (mw s i)
  have hn:=bd hs
  have hlt:((pre.length:Nat):Int) < ((bB s i).length:Int):=bq h
  have hw:IntKind.i64.wrap ((pre.length:Int)+1)=((pre++[y]).length:Int):=aL h (by omega)
  have hg:((bB s i).map fun k:Nat=>(k:Int))[pre.length]? = some (y:Int):=by
   rw[h]
   simp
  obtain⟨done1,F1,e1,I1,N1,d1⟩:=R y (fun k=>P k∨k=i) done F hyl hI (fun p hp'=>by
   rcases hp' with hp' | hp'
   ·exact⟨(hP p hp').1,.more (hP p hp').2 hy⟩
   ·rw[hp']
    exact⟨hr,.one hy⟩) hc
  obtain⟨done2,F2,e2,I2,N2,d2⟩:=Ir R hi hf hr ht hP ys (pre++[y]) done1 F1 (av h) I1 (Nat.le_trans N1.cnt hc) (fun k hk=>by
   rcases List.mem_append.1 hk with hk | hk
   ·exact N1.mono k (hp k hk)
   ·rw[List.mem_singleton.1 hk]
    exact d1) (N1.mono i hdi)
  refine⟨done2,F2,?_,I2,N1.trans N2,d2⟩
  rw[db,az hlt,jB hg,e1,Option.bind_some,hw]
  exact e2
theorem T5 : ∀ n:Nat,V9 s told given n:=by
 intro n
 induction n with
 | zero =>
  intro i P done F hi hI hP hc
  by_cases hd:done.getD i false=true
  ·refine⟨done,F,?_,hI,⟨Nat.le_refl _,fun _ h=>h⟩,hd⟩
   rw[bV,bu (nn _) (by rw[hI.len]; omega),Int.toNat_natCast,if_pos hd]
  ·have:=qx done i (by rw[hI.len]; exact hi) (by simpa using hd)
   omega
 | succ n R =>
  intro i P done F hi hI hP hc
  by_cases hd:done.getD i false=true
  ·refine⟨done,F,?_,hI,⟨Nat.le_refl _,fun _ h=>h⟩,hd⟩
   rw[bV,bu (nn _) (by rw[hI.len]; omega),Int.toNat_natCast,if_pos hd]
  ·have hil:i < done.length:=by rw[hI.len]; exact hi
   have hd':done.getD i false=false:=by simpa using hd
   have hcs:=qx done i hil hd'
   have ht:told i=false:=by
    rw[Bool.eq_false_iff]
    intro h
    exact hd (hI.told i hi h)
   have hset:(done.set i true).getD i false=true:=by rw[lP _ _ _ hil,if_pos rfl]
   have hnext:zr s done (done.set i true):=⟨by omega,fun k hk=>by
    rw[lP _ _ _ hil]
    split
    ·rfl
    ·exact hk⟩
   have hstep : ∀ v,an v=true→v=cO s told given i→D1 s told given P (done.set i true) (zQ F i v):=by
    intro v hv ev
    refine⟨by rw[List.length_set]; exact hI.len,fun k hk hdk => ?_,fun k hk => ?_,fun k hk htk=>hnext.mono k (hI.told k hk htk)⟩
    ·unfold zQ
     rw[lP _ _ _ hil] at hdk
     by_cases e:k=i
     ·rw[if_pos e,e]
      exact .inr ev
     ·rw[if_neg e] at hdk ⊢
      exact hI.val k hk hdk
    ·unfold zQ
     by_cases e:k=i
     ·rw[if_pos e]
      exact hv
     ·rw[if_neg e]
      exact hI.ok k hk
   have hve:=qv (told:=told) (given:=given) (cP hs) i
   rw[if_neg (by simp[ht])] at hve
   have heq:bh (i:Int) (gr s) done (aO s F)=ix (gF s) (i:Int) ([]:(List aa)) fun y1=>(if((List.length y1:Int) == 0)=true then(ix s (i:Int) (ap.dflt) fun y2=>((ej y2.2.1).bind fun z1=>(inb (aO s F) (i:Int) (gj (ae.dflt) (aO s F) (i:Int) (fun e=>(e.1,z1.1.1,())) fun w3=>(some ((()),((List.set done i true),gr s,w3,()))))))) else((j9 (gr s) (i:Int)).bind fun z2=>(if z2.1.1=true then((fH 5).bind fun z3=>(inb (aO s F) (i:Int) (gj (ae.dflt) (aO s F) (i:Int) (fun e=>(e.1,z3.1.1,())) fun w4=>(some ((()),((List.set done i true),gr s,w4,())))))) else(ix (gL s) (i:Int) ([]:(List Int)) fun y5=>(bU (i:Int) y5 (List.length y5:Int) 0 (gr s) (List.set done i true) (aO s F)))))):=by
    rw[bV,bu (nn _) (by omega),Int.toNat_natCast,hd',if_neg (by decide),bu (nn _) (by omega)]
    rfl
   rw[heq,jB (P6 hi)]
   cases hf:df (fo s i) with
   | none =>
    rw[hf] at hve
    have hsz:=cP hs i
    have hsz2:(fo s i).size≤200:=pD hs _ (qw hi)
    have hrv:ej (fo s i)=some (((bo (lb (fo s i))).1,(bo (lb (fo s i))).2,()),()):=by
     have:=ng (w:=lb (fo s i)) (by rw[qi]; omega)
     rw[hY] at this
     exact this
    refine⟨done.set i true,zQ F i (bo (lb (fo s i))).1,?_,hstep _ (Ss _) hve.symm,hnext,hset⟩
    dsimp only[Option.getD_none]
    rw[if_pos (by rfl),jB (oc (d:=ap.dflt) hi)]
    show((ej (fo s i)).bind fun z1=>_)=_
    rw[hrv,Option.bind_some,bu (nn _) (by rw[gc]; omega),D0 _ hi]
   | some f =>
    rw[hf] at hve
    have hok:=lN hf (cP hs i)
    have hfl:1≤f.length:=by
     have hb:cw (f.length:Int) 1 60=true:=by
      unfold fV at hok
      simp only[Bool.and_eq_true] at hok
      exact hok.1
     have:=bA.1 hb
     omega
    dsimp only[Option.getD_some]
    rw[if_neg (by rw[beq_iff_eq]; omega),Sp (bd hs) hi,Option.bind_some]
    dsimp only
    by_cases hr:dH (bB s) i i
    ·simp only[if_pos hr] at hve
     refine⟨done.set i true,zQ F i (vE 5),?_,hstep _ (nd (by decide) (by decide)) hve.symm,hnext,hset⟩
     rw[lO.2 hr,if_pos rfl,gx,Option.bind_some,bu (nn _) (by rw[gc]; omega),D0 _ hi]
    ·have hrb:wj s i=false:=by
      rw[Bool.eq_false_iff,ne_eq,lO]
      exact hr
     have hI':D1 s told given (fun k=>P k∨k=i) (done.set i true) F:=by
      refine⟨by rw[List.length_set]; exact hI.len,fun k hk hdk => ?_,hI.ok,fun k hk htk=>hnext.mono k (hI.told k hk htk)⟩
      rw[lP _ _ _ hil] at hdk
      by_cases e:k=i
      ·exact .inl (.inr e)
      ·rw[if_neg e] at hdk
       rcases hI.val k hk hdk with h1 | h1
       ·exact .inl (.inl h1)
       ·exact .inr h1
     obtain⟨done',F',e1,I1,N1,d1⟩:=Ir hs R hi hf hr ht hP (bB s i) [] (done.set i true) F rfl hI' (by omega) (fun k hk=>by cases hk) hset
     refine⟨done',F',?_,I1,hnext.trans N1,d1⟩
     rw[hrb,if_neg (by decide),jB (Jg hi),Vh,List.length_map]
     exact e1
theorem LX : ∀(m i:Nat) (done:List Bool) (F:Nat→ab),i+m=s.length→D1 s told given (fun _=>False) done F→(∀ k,k < i→done.getD k false=true) →
  fL (s.length:Int) (i:Int) (aO s F) (gr s) done=some ((aO s (cO s told given),()),())
 | 0,i,done,F,h,hI,hd=>by
  rw[jw,aw (by omega)]
  rw[vJ fun k hk=>(hI.val k hk (hd k (by omega))).resolve_left id]
 | m+1,i,done,F,h,hI,hd=>by
  have hn:=bd hs
  obtain⟨done',F',e1,I1,N1,d1⟩:=T5 hs (told:=told) (given:=given) (done.count false) i (fun _=>False) done F (by omega) hI (fun p hp=>hp.elim) (Nat.le_refl _)
  rw[jw,az (by omega),e1,Option.bind_some,kR (by omega) (by omega)]
  have:=LX m (i+1) done' F' (by omega) I1 (fun k hk=>by
   by_cases e:k=i
   ·rw[e]
    exact d1
   ·exact N1.mono k (hd k (by omega)))
  exact this
theorem P9 {done:List Bool} {F:Nat→ab}:ji (s.length:Int) 0 (aO s F) s (gF s) (gL s) done=fL (s.length:Int) 0 (aO s F) (gr s) done:=by
 rw[yP,jw]
 have:=Su (gr s) (done.count false) 0 done (aO s F) (Nat.le_refl _)
 rw[←this]
 rfl
theorem MZ {l:List Bool} (h:l.length≤1000000):gX l=some ((l,()),()):=by
 rw[rx]
 unfold eD
 simp only[jJ?,dite_true,Option.bind_some]
 exact if_pos (by omega)
theorem LY {gv:List ab} (hg:gv.length=s.length) {td:List Bool} : ∀(ys pre:List aj) (o:List ac),s=pre++ys→o.length=ys.length →
  gZ gv s (s.length:Int) (pre.length:Int) s (gF s) (gL s) td (((List.range pre.length).map fun k=>(aC s k,gv.getD k v0,()))++o)=ji (s.length:Int) 0 (aO s fun k=>gv.getD k v0) s (gF s) (gL s) td
 | [],pre,o,h,ho=>by
  have e:pre=s:=by rw[h]; simp
  rw[pN,aw (bi h),List.eq_nil_of_length_eq_zero ho,List.append_nil,List.length_map,List.length_range,e]
  rfl
 | y :: ys,pre,o,h,ho=>by
  have hn:=bd hs
  have hlen:s.length=pre.length+(ys.length+1):=by rw[h]; simp
  cases o with
  | nil=>cases ho
  | cons z o =>
   have e0:((List.range pre.length).map fun k=>(aC s k,gv.getD k v0,())).length=pre.length:=by rw[List.length_map,List.length_range]
   have hi:pre.length < gv.length:=by omega
   rw[pN,az (bq h),bk h,jB (oc (d:=v0) hi),bu (nn _) (by simp only[List.length_append,List.length_cons,List.length_map,List.length_range]; omega),aL h (by omega)]
   have ih:=LY hg (td:=td) ys (pre++[y]) o (av h) (by simpa using ho)
   have e1:List.set (((List.range pre.length).map fun k=>(aC s k,gv.getD k v0,()))++z :: o) (Int.toNat (pre.length:Int)) (y.1,gv.getD (Int.toNat (pre.length:Int)) v0,())=((List.range (pre++[y]).length).map fun k=>(aC s k,gv.getD k v0,()))++o:=by
    have:=tA (l:=(List.range pre.length).map fun k=>((aC s k,gv.getD k v0,()):ac)) (r:=o) (y:=z) (z:=(y.1,gv.getD (Int.toNat (pre.length:Int)) v0,()))
    rw[e0] at this
    rw[this,List.length_append,List.length_singleton,List.range_succ,List.map_append,List.append_assoc,List.map_singleton,LS h]
    rfl
   refine Eq.trans ?_ ih
   exact congrArg _ e1
theorem C1 {td:List Bool} {gv:List ab} (h1:td.length=s.length) (h2:gv.length=s.length) (h3 : ∀ v∈gv,an v=true) (ht : ∀ k,k < s.length→told k=td.getD k false) (hg : ∀ k,k < s.length→given k=gv.getD k v0):kb (gr s) td gv=some ((aO s (cO s told given),()),()):=by
 have hn:=bd hs
 rw[DA,MZ hs (by omega),Option.bind_some]
 show(wF (s.length:Int) 48 (ae.dflt) fun y1=>(gZ gv s (s.length:Int) 0 s (gF s) (gL s) td y1))=_
 rw[rt (by omega)]
 have:=LY hs h2 (td:=td) s [] (List.replicate s.length ae.dflt) rfl (by simp)
 refine Eq.trans this ?_
 rw[P9 hs]
 refine LX hs s.length 0 td _ (by omega) ⟨h1,fun k hk hd => .inr ?_,fun k hk => ?_,fun k hk h=>by rw[←ht k hk]; exact h⟩ (fun k hk=>by omega)
 ·rw[qv (cP hs) k,if_pos (by rw[ht k hk]; exact hd),hg k hk]
 ·exact h3 _ (qw (by omega))
end
def dv (s:List aj) (V:Nat→ab) (pend:List Nat):List ac:=((List.range s.length).filter fun k => !decide (k∈pend)).map fun k=>(aC s k,V k,())
theorem zt (s:List aj) (V:Nat→ab) (pend:List Nat):(dv s V pend).Sublist (aO s V):=List.Sublist.map _ List.filter_sublist
theorem T6 (s:List aj) (V:Nat→ab):dv s V []=aO s V:=by
 unfold dv aO
 rw[List.filter_eq_self.2 fun k hk=>by simp]
theorem D2 {s:List aj} {V:Nat→ab} {pend:List Nat} {c:ac}:c∈dv s V pend ↔ ∃ k,k < s.length∧k ∉ pend∧(aC s k,V k,())=c:=by
 unfold dv
 rw[List.mem_map]
 constructor
 ·rintro⟨k,hk,e⟩
  rw[List.mem_filter,List.mem_range] at hk
  exact⟨k,hk.1,by simpa using hk.2,e⟩
 ·rintro⟨k,h1,h2,e⟩
  exact⟨k,List.mem_filter.2 ⟨List.mem_range.2 h1,by simpa using h2⟩,e⟩
theorem T7 {l m:List ac} (hs:l.Sublist m) (h:g8 m=true):g8 l=true:=by
 unfold g8 at h ⊢
 simp only[Bool.and_eq_true,decide_eq_true_eq,List.all_eq_true] at h ⊢
 obtain⟨h1,h2,h3⟩:=h
 have hl:=hs.length_le
 refine⟨by omega,fun c hc=>h2 c (hs.subset hc),?_⟩
 exact LC (List.Pairwise.sublist (List.Sublist.map _ hs) (RD h3)) (fun a e=>by cases e)
theorem Vi {s:List aj} {V:Nat→ab} (h:rZ s):(aO s V).Pairwise fun a b=>cU a.1 b.1=true:=by
 have h1:((aO s V).map (·.1)).Pairwise fun a b=>cU a b=true:=by
  rw[C0]
  exact List.Pairwise.map _ (fun a b h=>h) h
 exact List.pairwise_map.1 h1
theorem T8 {s:List aj} {V:Nat→ab} {pend:List Nat} {ar:List aJ} (h : ∀ k∈sq s ar,k ∉ pend):jA ar (dv s V pend)=jA ar (aO s V):=by
 unfold jA dv aO
 rw[List.filter_map,List.filter_map,List.filter_filter]
 congr 1
 refine List.filter_congr fun k hk => ?_
 show((ar.any fun a=>dI a (aC s k)) && !decide (k∈pend))=ar.any fun a=>dI a (aC s k)
 cases hc:(ar.any fun a=>dI a (aC s k)) with
 | false=>rfl
 | true =>
  have:=h k (Cf.2 ⟨List.mem_range.1 hk,hc⟩)
  simp[this]
def uA (c:ac):List ac→List ac
 | []=>[c]
 | y :: ys=>if fD y.1 c.1=true then y :: uA c ys else c :: y :: ys
theorem Bx (c:ac) : ∀ l:List ac,(uA c l).Perm (c :: l)
 | [] => .refl _
 | y :: ys=>by
  unfold uA
  split
  ·exact((Bx c ys).cons y).trans (.swap c y ys)
  ·exact .refl _
theorem Oe {c:ac} : ∀ {l:List ac},(l.Pairwise fun a b=>cU a.1 b.1=true)→(∀ y∈l,y.1≠c.1)→(uA c l).Pairwise fun a b=>cU a.1 b.1=true
 | [],_,_=>by simp[uA]
 | y :: ys,h,hn=>by
  have h':=List.pairwise_cons.1 h
  unfold uA
  by_cases k:fD y.1 c.1=true
  ·rw[if_pos k]
   refine List.pairwise_cons.2 ⟨fun z hz => ?_,Oe h'.2 fun z hz=>hn z (List.mem_cons_of_mem _ hz)⟩
   rcases List.mem_cons.1 ((Bx c ys).mem_iff.1 hz) with rfl | hz
   ·exact k
   ·exact h'.1 z hz
  ·rw[if_neg k]
   have hc:cU c.1 y.1=true:=by
    rcases MY y.1 c.1 with e | e | e
    ·exact absurd e k
    ·exact absurd e (hn y (by simp))
    ·exact e
   refine List.pairwise_cons.2 ⟨fun z hz => ?_,h⟩
   rcases List.mem_cons.1 hz with rfl | hz
   ·exact hc
   ·exact wi hc (h'.1 z hz)
theorem LZ {l:List ac} {c:ac} (hl:l.length≤2000000) : ∀(ys pre:List ac),l=pre++ys→va l (pre.length:Int) c.1 c.2.1=some ((pre++uA c ys,()),())
 | [],pre,h=>by
  have hlen:l.length=pre.length:=by rw[h]; simp
  rw[AZ,aw (bi h),Ra (nn _) (by omega),bv (by simp only[List.length_nil,List.length_take]; omega),bv (by simp only[List.length_append,List.length_nil,List.length_take,List.length_singleton]; omega),EZ (nn _) (by omega),bv (by simp only[List.length_append,List.length_nil,List.length_take,List.length_singleton,List.length_drop]; omega)]
  rw[h]
  simp[uA]
 | y :: ys,pre,h=>by
  have hlen:l.length=pre.length+(ys.length+1):=by rw[h]; simp
  rw[AZ,az (bq h),bk h,Bb,Option.bind_some]
  dsimp only
  unfold uA
  by_cases k:fD y.1 c.1=true
  ·rw[if_pos k,if_pos k,aL h (by omega),LZ hl ys _ (av h)]
   simp
  ·rw[if_neg k,if_neg k,Ra (nn _) (by omega),bv (by simp only[List.length_nil,List.length_take]; omega),bv (by simp only[List.length_append,List.length_nil,List.length_take,List.length_singleton]; omega),EZ (nn _) (by omega),bv (by simp only[List.length_append,List.length_nil,List.length_take,List.length_singleton,List.length_drop]; omega)]
   rw[h]
   simp
theorem Sv {l:List ac} (c:ac) (hl:l.length≤2000000):j7 l c=some ((uA c l,()),()):=by
 rw[Rg]
 exact LZ hl l [] rfl
theorem T9 {s:List aj} {V:Nat→ab} (hs:rZ s) {p q:List Nat} {j:Nat} (hj:j < s.length) (hp:j∈p) (hq : ∀ k,k∈q↔k∈p∧k≠j):uA (aC s j,V j,()) (dv s V p)=dv s V q:=by
 have pw:=fun r=>List.Pairwise.sublist (zt s V r) (Vi (V:=V) hs)
 refine Sg (lt:=fun a b:ac=>cU a.1 b.1) (fun x=>Bt _) (fun x y z h k=>wi h k) (Oe (pw p) fun y hy => ?_) (pw q) fun y => ?_
 ·obtain⟨k,h1,h2,rfl⟩:=D2.1 hy
  intro e
  have:=Ch hs h1 hj e
  exact h2 (this ▸ hp)
 ·rw[(Bx _ _).mem_iff,List.mem_cons,D2,D2]
  constructor
  ·rintro(rfl | ⟨k,h1,h2,rfl⟩)
   ·exact⟨j,hj,fun h=>((hq j).1 h).2 rfl,rfl⟩
   ·exact⟨k,h1,fun h=>h2 ((hq k).1 h).1,rfl⟩
  ·rintro⟨k,h1,h2,rfl⟩
   by_cases e:k=j
   ·subst e
    exact .inl rfl
   ·exact .inr ⟨k,h1,fun h=>h2 ((hq k).2 ⟨h,e⟩),rfl⟩
section
variable {s:List aj} (hs:bQ s=true) {told:Nat→Bool} {given:Nat→ab} (hg : ∀ k,k < s.length→an (given k)=true)
include hs hg
theorem Of : ∀(n k:Nat),k < s.length→an (kE s told given n k)=true
 | 0,k,hk=>PG
 | n+1,k,hk=>by
  unfold kE
  split
  ·exact hg k hk
  ·cases hf:df (fo s k) with
   | none=>exact Ss _
   | some f =>
    dsimp only
    split
    ·exact nd (by decide) (by decide)
    ·exact Iq (lN hf (cP hs k)) (sW hs fun j hj=>Of n j hj)
theorem Vj {k:Nat} (hk:k < s.length):an (cO s told given k)=true:=Of hs hg _ k hk
theorem Vk (p:List Nat):g8 (dv s (cO s told given) p)=true:=T7 (zt _ _ _) (sW hs fun k hk=>Vj hs hg hk)
theorem Sw {f:List aa} {i:Nat} {p:List Nat} (hf:df (fo s i)=some f) (h : ∀ k∈bB s i,k ∉ p) (ht:told i=false) (hr : ¬dH (bB s) i i):u3 f (dv s (cO s told given) p)=some ((cO s told given i,()),()):=by
 have hok:=lN hf (cP hs i)
 have hsm:=Br hok
 have hl:=hsm.1
 have hn:=bd hs
 have hv:=Vk (told:=told) hs hg p
 have hdl:=(zt s (cO s told given) p).length_le
 rw[gc] at hdl
 have e:iO f (dv s (cO s told given) p)=cO s told given i:=by
  rw[qv (cP hs) i,if_neg (by simp[ht]),hf]
  simp only[if_neg hr]
  refine Io hok (T8 fun k hk=>h k ?_)
  unfold bB mw
  rw[hf]
  exact hk
 rw[TF (by omega) (fun c hc=>Nat.le_trans (et (n8 hv c hc)) (by decide)) (by omega) hsm.2.1 hsm.2.2]
 unfold PN
 rw[if_pos hok,if_pos hv,e]
theorem Vl {p q:List Nat} {j:Nat} (hj:j < s.length) (hp:j∈p) (hq : ∀ k,k∈q↔k∈p∧k≠j):j7 (dv s (cO s told given) p) (aC s j,cO s told given j,())=some ((dv s (cO s told given) q,()),()):=by
 have hn:=bd hs
 have hdl:=(zt s (cO s told given) p).length_le
 rw[gc] at hdl
 rw[Sv _ (by omega),T9 (eQ hs) hj hp hq]
omit hg in
theorem FY {t:List Nat} {k:Nat} (hk:k < s.length) (ht : ∀ j∈t,j < s.length) (hl:t.length≤1000000):lm (t.map (aC s)) (aC s k)=some ((decide (k∈t),()),()):=by
 rw[rK _ (by rw[List.length_map]; omega)]
 have:decide (aC s k∈t.map (aC s))=decide (k∈t):=by
  rw[Bool.eq_iff_iff,decide_eq_true_eq,decide_eq_true_eq]
  exact LV (eQ hs) hk ht
 rw[this]
def gq (lft rest:List Nat) (i:Nat) (k:Nat):Bool:=decide (k∈lft.drop i) || decide (k∈rest)
section
variable {lft rest:List Nat} (hlf : ∀ k∈lft,k < s.length) (hre : ∀ k∈rest,k < s.length) (hll:lft.length≤120) (hrl:rest.length≤120)
include hlf hre hll hrl
omit hg in
theorem qy {i:Nat} (hi:i < lft.length) {f:List aa} {a b:Int} {c:ByteArray} {done:List ac} {ln:List Nat} (hln : ∀ k∈ln,k < s.length) (hlnl:ln.length≤120) : ∀(ys pre:List Nat) (w:Bool),ln=pre++ys →
  eV s (i:Int) w (pre.length:Int) done (lft.map (aC s)) (rest.map (aC s)) f a b c (ln.map (aC s)) =
  if(w || ys.any (gq lft rest i))=true then(ix (lft.map (aC s)) (i:Int) (ao.dflt) fun y2=>(app (rest.map (aC s)) ([y2]:(List al)) 16 fun y3=>(ed s (IntKind.i64.wrap ((i:Int)+1)) done (lft.map (aC s)) y3)))
  else((u3 f done).bind fun z3=>(ix (lft.map (aC s)) (i:Int) (ao.dflt) fun y4=>((j7 done (y4,z3.1.1,())).bind fun z4=>(ed s (IntKind.i64.wrap ((i:Int)+1)) z4.1.1 (lft.map (aC s)) (rest.map (aC s))))))
 | [],pre,w,h=>by
  have e:=bi h
  rw[vw,aw (by rw[List.length_map]; exact e),List.any_nil,Bool.or_false]
 | y :: ys,pre,w,h=>by
  have hlen:ln.length=pre.length+(ys.length+1):=by rw[h]; simp
  have hlt:(pre.length:Int) < ((ln.map (aC s)).length:Int):=by rw[List.length_map]; exact bq h
  have hgt:List.getD (ln.map (aC s)) (Int.toNat (pre.length:Int)) ao.dflt=aC s y:=by
   rw[h,List.getD_eq_getElem?_getD]
   simp
  have hy:=hln y (by rw[h]; simp)
  have hw:IntKind.i64.wrap ((pre.length:Int)+1)=((pre++[y]).length:Int):=aL h (by omega)
  rw[vw,az hlt,hw]
  cases w with
  | true =>
   rw[if_pos rfl,qy hi hln hlnl ys _ true (av h)]
   simp only[Bool.true_or]
  | false =>
   have hdr:List.drop ((i:Int).toNat) (lft.map (aC s))=(lft.drop i).map (aC s):=by rw[Int.toNat_natCast,List.map_drop]
   rw[if_neg (by decide),EZ (nn _) (by rw[List.length_map]; omega),hdr,bu (nn _) hlt,hgt,FY hs hy (fun j hj=>hlf j (List.mem_of_mem_drop hj)) (by rw[List.length_drop]; omega),Option.bind_some]
   dsimp only
   have hany:(y :: ys).any (gq lft rest i)=(gq lft rest i y || ys.any (gq lft rest i)):=List.any_cons
   by_cases h1:y∈lft.drop i
   ·have hwt:gq lft rest i y=true:=by
     unfold gq
     simp[h1]
    rw[decide_eq_true h1,if_pos rfl,qy hi hln hlnl ys _ true (av h),hany,hwt]
    simp only[Bool.true_or,Bool.false_or]
   ·have hwt:gq lft rest i y=decide (y∈rest):=by
     unfold gq
     simp[h1]
    rw[decide_eq_false h1,if_neg (by decide),bu (nn _) hlt,FY hs hy hre (by omega),Option.bind_some]
    dsimp only
    rw[qy hi hln hlnl ys _ _ (av h),hany,hwt]
    simp only[Bool.false_or]
omit hg in
theorem Vm {i:Nat} (hi:i < lft.length) {f:List aa} {a b:Int} {c:ByteArray} {done:List ac} {ln:List Nat} (hln : ∀ k∈ln,k < s.length) (hlnl:ln.length≤120) :
  qV s (i:Int) false 0 done (lft.map (aC s)) (rest.map (aC s)) f a b c (ln.map (aC s)) =
  if(ln.any (gq lft rest i))=true then(ix (lft.map (aC s)) (i:Int) (ao.dflt) fun y2=>(app (rest.map (aC s)) ([y2]:(List al)) 16 fun y3=>(ed s (IntKind.i64.wrap ((i:Int)+1)) done (lft.map (aC s)) y3)))
  else if ln=[] then((u3 f done).bind fun z3=>(ix (lft.map (aC s)) (i:Int) (ao.dflt) fun y4=>((j7 done (y4,z3.1.1,())).bind fun z4=>(gw s (IntKind.i64.wrap ((i:Int)+1)) z4.1.1 (lft.map (aC s)) (rest.map (aC s))))))
  else((u3 f done).bind fun z3=>(ix (lft.map (aC s)) (i:Int) (ao.dflt) fun y4=>((j7 done (y4,z3.1.1,())).bind fun z4=>(ed s (IntKind.i64.wrap ((i:Int)+1)) z4.1.1 (lft.map (aC s)) (rest.map (aC s)))))):=by
 have hlt':(i:Int) < ((lft.map (aC s)).length:Int):=by rw[List.length_map]; omega
 cases ln with
 | nil =>
  rw[xA,aw (by simp),if_neg (by decide),if_neg (by simp),if_pos rfl]
  congr 1
 | cons y ys =>
  have hlt:(0:Int) < (((y :: ys).map (aC s)).length:Int):=by simp only[List.map_cons,List.length_cons]; omega
  have hgt:List.getD ((y :: ys).map (aC s)) (Int.toNat (0:Int)) ao.dflt=aC s y:=rfl
  have hy:=hln y (by simp)
  have hw:IntKind.i64.wrap ((0:Int)+1)=(([y]:List Nat).length:Int):=by
   show IntKind.i64.wrap ((0:Int)+1)=(1:Int)
   decide
  have hdr:List.drop ((i:Int).toNat) (lft.map (aC s))=(lft.drop i).map (aC s):=by rw[Int.toNat_natCast,List.map_drop]
  rw[xA,az hlt,hw,if_neg (by decide),EZ (nn _) (by rw[List.length_map]; omega),hdr,bu (Int.le_refl 0) hlt,hgt,FY hs hy (fun j hj=>hlf j (List.mem_of_mem_drop hj)) (by rw[List.length_drop]; omega),Option.bind_some]
  dsimp only
  rw[if_neg (show ¬(y :: ys)=[] by simp)]
  have hany:(y :: ys).any (gq lft rest i)=(gq lft rest i y || ys.any (gq lft rest i)):=List.any_cons
  by_cases h1:y∈lft.drop i
  ·have hwt:gq lft rest i y=true:=by
    unfold gq
    simp[h1]
   rw[decide_eq_true h1,if_pos rfl,qy hs hlf hre hll hrl hi hln hlnl ys [y] true rfl,hany,hwt]
  ·have hwt:gq lft rest i y=decide (y∈rest):=by
    unfold gq
    simp[h1]
   rw[decide_eq_false h1,if_neg (by decide),bu (Int.le_refl 0) hlt,FY hs hy hre (by omega),Option.bind_some]
   dsimp only
   rw[qy hs hlf hre hll hrl hi hln hlnl ys [y] _ rfl,hany,hwt]
end
def Jh (s:List aj) (lft:List Nat) (j:Nat):Prop:=df (fo s j)=none∨dH (bB s) j j ∨ ∀ k∈bB s j,k ∉ lft
theorem zu {lft:List Nat} (hd:lft.Nodup) (hlf : ∀ k∈lft,k < s.length∧told k=false) : ∀(ys pre rest:List Nat),lft=pre++ys→rest.Sublist pre→(∀ k∈rest,¬Jh s lft k) →
  ∃ rest',gw s (pre.length:Int) (dv s (cO s told given) (rest++ys)) (lft.map (aC s)) (rest.map (aC s))=iJ s (dv s (cO s told given) rest') (rest'.map (aC s))∧ed s (pre.length:Int) (dv s (cO s told given) (rest++ys)) (lft.map (aC s)) (rest.map (aC s))=iJ s (dv s (cO s told given) rest') (rest'.map (aC s))∧rest'.Sublist lft ∧ ∀ k∈rest',¬Jh s lft k
 | [],pre,rest,h,hr,hf=>by
  have e:=bi h
  have hpre:lft=pre:=by rw[h]; simp
  refine⟨rest,?_,?_,hpre ▸ hr,hf⟩
  ·rw[xz,aw (by rw[List.length_map]; exact e),List.append_nil]
  ·rw[vx,aw (by rw[List.length_map]; exact e),List.append_nil]
 | y :: ys,pre,rest,h,hr,hf=>by
  have hn:=bd hs
  have hlft:=fun k hk=>(hlf k hk).1
  have hll:=uy s.length lft hd hlft
  have hlen:lft.length=pre.length+(ys.length+1):=by rw[h]; simp
  have hrl:=hr.length_le
  have hym:y∈lft:=by rw[h]; simp
  obtain⟨hy,hyt⟩:=hlf y hym
  have hlt:(pre.length:Int) < ((lft.map (aC s)).length:Int):=by rw[List.length_map]; exact bq h
  have hgt:List.getD (lft.map (aC s)) (Int.toNat (pre.length:Int)) ao.dflt=aC s y:=by
   rw[h,List.getD_eq_getElem?_getD]
   simp
  have hix : ∀ {β:Type} (F:al→Option β),ix (lft.map (aC s)) (pre.length:Int) ao.dflt F=F (aC s y):=by
   intro β F
   unfold ix
   rw[if_pos (nn _),if_pos hlt,hgt]
  have hw:IntKind.i64.wrap ((pre.length:Int)+1)=((pre++[y]).length:Int):=aL h (by omega)
  have hd':=hd
  rw[h,List.nodup_append] at hd'
  obtain⟨_,hd2,hd3⟩:=hd'
  have hd2:=List.nodup_cons.1 hd2
  have hyr:y ∉ rest:=fun hm=>hd3 y (hr.subset hm) y (by simp) rfl
  have hq : ∀ k,k∈rest++ys↔k∈rest++y :: ys∧k≠y:=by
   intro k
   simp only[List.mem_append,List.mem_cons]
   constructor
   ·rintro(e | e)
    ·exact⟨.inl e,fun x=>hyr (x ▸ e)⟩
    ·exact⟨.inr (.inr e),fun x=>hd2.1 (x ▸ e)⟩
   ·rintro⟨e | e | e,hne⟩
    ·exact .inl e
    ·exact absurd e hne
    ·exact .inr e
  have hsub:rest.Sublist (pre++[y]):=hr.trans (List.sublist_append_left _ _)
  have hput:=Vl (told:=told) hs hg hy (p:=rest++y :: ys) (by simp) hq
  have ihF:=zu hd hlf ys (pre++[y]) rest (av h) hsub hf
  have hsz:=cP hs y
  have hrv:jQ (fo s y)=some (((bo (lb (fo s y))).1,(bo (lb (fo s y))).2,()),()):=by
   have:=rY (w:=lb (fo s y)) (by rw[qi]; omega)
   rw[hY] at this
   exact this
  have hsrc:jj (aC s y) s=fo s y:=Oc (eQ hs) hy
  have hve:=qv (told:=told) (given:=given) (cP hs) y
  rw[if_neg (by simp[hyt])] at hve
  rw[xz,vx,az hlt,az hlt,bu (nn _) hlt,hix,hgt,LK (by omega),hsrc]
  simp only[Option.bind_some,UA hsz,hrv,hw]
  cases hfo:df (fo s y) with
  | none =>
   rw[hfo] at hve
   simp only[Option.isSome_none,Bool.false_eq_true,if_false,bu (nn _) hlt,hix,←hve,hput,Option.bind_some]
   exact ihF
  | some f =>
   rw[hfo] at hve
   simp only[Option.isSome_some,if_true,dj,Option.bind_some,bu (nn _) hlt,hix,P8 hs hy]
   by_cases hrc:dH (bB s) y y
   ·simp only[if_pos hrc] at hve
    have hrb:=lO.2 hrc
    simp only[hrb,Bool.not_true,Bool.false_eq_true,if_false,bu (nn _) hlt,hix]
    have e5:(vE 5)=cO s told given y:=hve.symm
    simp only[e5,hput,Option.bind_some]
    exact ihF
   ·simp only[if_neg hrc] at hve
    have hrb:wj s y=false:=by
     rw[Bool.eq_false_iff,ne_eq,lO]
     exact hrc
    have hlnl:(bB s y).length≤s.length:=tf s (mw s y)
    have hre : ∀ k∈rest,k < s.length:=fun k hk=>hlft k (by rw[h]; exact List.mem_append_left _ (hr.subset hk))
    have hfin:=Vm hs hlft hre (by omega) (by omega) (i:=pre.length) (by omega) (f:=f) (a:=(vE 5).1) (b:=(vE 5).2.1) (c:=(vE 5).2.2.1) (done:=dv s (cO s told given) (rest++y :: ys)) (ln:=bB s y) (fun k hk=>hO hk) (by omega)
    have hfin2:=qy hs hlft hre (by omega) (by omega) (i:=pre.length) (by omega) (f:=f) (a:=(vE 5).1) (b:=(vE 5).2.1) (c:=(vE 5).2.2.1) (done:=dv s (cO s told given) (rest++y :: ys)) (ln:=bB s y) (fun k hk=>hO hk) (by omega) (bB s y) [] false rfl
    have hfin2:eV s (pre.length:Int) false 0 (dv s (cO s told given) (rest++y :: ys)) (lft.map (aC s)) (rest.map (aC s)) f (vE 5).1 (vE 5).2.1 (vE 5).2.2.1 ((bB s y).map (aC s))=_:=hfin2
    rw[Bool.false_or] at hfin2
    have hdrop:lft.drop pre.length=y :: ys:=by rw[h]; simp
    simp only[hrb,Bool.not_false,if_true,bu (nn _) hlt,hix,LR hs hy,Option.bind_some,Option.getD_some,hfin,hfin2]
    by_cases hwt:(bB s y).any (gq lft rest pre.length)=true
    ·have hfr : ¬Jh s lft y:=by
      rintro(e | e | e)
      ·rw[hfo] at e
       cases e
      ·exact hrc e
      ·obtain⟨k,hk,hkw⟩:=List.any_eq_true.1 hwt
       refine e k hk ?_
       unfold gq at hkw
       rw[Bool.or_eq_true,decide_eq_true_eq,decide_eq_true_eq] at hkw
       rcases hkw with hkw | hkw
       ·exact List.mem_of_mem_drop hkw
       ·rw[h]
        exact List.mem_append_left _ (hr.subset hkw)
     have ihT:=zu hd hlf ys (pre++[y]) (rest++[y]) (av h) (hr.append (List.Sublist.refl _)) (fun k hk=>by
      rcases List.mem_append.1 hk with hk | hk
      ·exact hf k hk
      ·rw[List.mem_singleton.1 hk]
       exact hfr)
     have e1:rest.map (aC s)++[aC s y]=(rest++[y]).map (aC s):=by simp
     have e2:(rest++[y])++ys=rest++y :: ys:=by simp
     rw[e2] at ihT
     obtain⟨rest',a1,a2,a3,a4⟩:=ihT
     simp only[if_pos hwt,hix]
     rw[bv (by simp only[List.length_map,List.length_singleton]; omega),e1,hw]
     exact⟨rest',a2,a2,a3,a4⟩
    ·have hno : ∀ k∈bB s y,k ∉ rest++y :: ys:=by
      intro k hk hkm
      apply hwt
      rw[List.any_eq_true]
      refine⟨k,hk,?_⟩
      unfold gq
      rw[hdrop,Bool.or_eq_true,decide_eq_true_eq,decide_eq_true_eq]
      exact(List.mem_append.1 hkm).symm
     have hev:=Sw hs hg hfo hno hyt hrc
     obtain⟨rest',a1,a2,a3,a4⟩:=ihF
     simp only[if_neg hwt,hev,Option.bind_some,hix,hput,hw]
     refine⟨rest',?_,?_,a3,a4⟩
     ·first
      | exact a1
      | exact a2
      | (split <;> first | exact a1 | exact a2)
     ·first
      | exact a1
      | exact a2
      | (split <;> first | exact a1 | exact a2)
theorem Og : ∀(m:Nat) (lft:List Nat),lft.length≤m→lft.Nodup→(∀ k∈lft,k < s.length∧told k=false)→iJ s (dv s (cO s told given) lft) (lft.map (aC s))=some ((aO s (cO s told given),()),())
 | m,[],_,_,_=>by
  rw[zK,aw (by simp),T6]
 | 0,y :: ys,h,_,_=>by simp at h
 | m+1,y :: ys,h,hd,hlf=>by
  obtain⟨rest',a1,_,a3,a4⟩:=zu hs hg hd hlf (y :: ys) [] [] rfl (List.Sublist.refl _) (fun k hk=>by cases hk)
  have hfree : ∃ j∈y :: ys,Jh s (y :: ys) j:=by
   by_cases hx : ∃ j∈y :: ys,dH (bB s) j j
   ·obtain⟨j,h1,h2⟩:=hx
    exact⟨j,h1,.inr (.inl h2)⟩
   ·obtain⟨i,h1,h2⟩:=TB (L:=bB s) (N:=List.range s.length) Jf (l:=y :: ys) (by simp) (fun i hi hr=>hx ⟨i,hi,hr⟩)
    exact⟨i,h1,.inr (.inr h2)⟩
  obtain⟨j,h1,h2⟩:=hfree
  have hlt:rest'.length < (y :: ys).length:=by
   rcases Nat.lt_or_ge rest'.length (y :: ys).length with e | e
   ·exact e
   ·have:=a3.eq_of_length (Nat.le_antisymm a3.length_le e)
    exact absurd h2 (a4 j (this ▸ h1))
  have ih:=Og m rest' (by omega) (hd.sublist a3) (fun k hk=>hlf k (a3.subset hk))
  rw[zK,az (by simp only[List.map_cons,List.length_cons]; omega)]
  exact a1.trans ih
end
section
variable {s:List aj} (hs:bQ s=true) {known:List ac} (hk:known.length≤2000000) (hkv : ∀ c∈known,an c.2.1=true) {ask:List al} (ha:ask.length≤1000000)
include hs hk ha
theorem GZ : ∀(ys pre:List aj) (done:List ac) (left:List al),s=pre++ys→done.length≤pre.length→left.length≤pre.length →
  pj s known ask (pre.length:Int) done left=iJ s (done++(ys.filter fun c => !decide (c.1∈ask)).map fun c=>(c.1,dN known c.1,())) (left++(ys.filter fun c=>decide (c.1∈ask)).map (·.1))
 | [],pre,done,left,h,h1,h2=>by
  rw[zG,aw (bi h)]
  simp
 | y :: ys,pre,done,left,h,h1,h2=>by
  have hn:=bd hs
  have hlen:s.length=pre.length+(ys.length+1):=by rw[h]; simp
  rw[zG,az (bq h)]
  simp only[bk h,rK _ (show ask.length≤1000000000 by omega),Option.bind_some,KR (xs:=known) (by omega)]
  rw[aL h (by omega)]
  by_cases e:y.1∈ask
  ·rw[decide_eq_true e,if_pos rfl,bv (by simp only[List.length_singleton]; omega),GZ ys _ _ _ (av h) (by simp only[List.length_append,List.length_singleton]; omega) (by simp only[List.length_append,List.length_singleton]; omega)]
   rw[List.filter_cons_of_neg (by simp[e]),List.filter_cons_of_pos (by simp[e])]
   simp
  ·rw[decide_eq_false e,if_neg (by decide),bv (by simp only[List.length_singleton]; omega),GZ ys _ _ _ (av h) (by simp only[List.length_append,List.length_singleton]; omega) (by simp only[List.length_append,List.length_singleton]; omega)]
   rw[List.filter_cons_of_pos (by simp[e]),List.filter_cons_of_neg (by simp[e])]
   simp
include hkv
theorem FZ:w7 s known ask=some ((aO s (cO s (fun k => !decide (aC s k∈ask)) fun k=>dN known (aC s k)),()),()):=by
 have h0:=GZ hs hk ha s [] [] [] rfl (Nat.le_refl _) (Nat.le_refl _)
 have key : ∀ t:List aj,(List.range s.length).map (fun i=>s.getD i ap.dflt)=t→(t.filter fun c=>decide (c.1∈ask)).map (·.1)=((List.range s.length).filter fun k=>decide (aC s k∈ask)).map (aC s)∧((t.filter fun c => !decide (c.1∈ask)).map fun c=>((c.1,dN known c.1,()):ac))=((List.range s.length).filter fun k => !decide (aC s k∈ask)).map fun k=>(aC s k,dN known (aC s k),()):=by
  rintro _ rfl
  rw[List.filter_map,List.filter_map,List.map_map,List.map_map]
  exact⟨rfl,rfl⟩
 obtain⟨k1,k2⟩:=key s (vI s _)
 have hg : ∀ k,k < s.length→an (dN known (aC s k))=true:=fun k _=>zb hkv
 have hd:dv s (cO s (fun k => !decide (aC s k∈ask)) fun k=>dN known (aC s k)) ((List.range s.length).filter fun k=>decide (aC s k∈ask))=((List.range s.length).filter fun k => !decide (aC s k∈ask)).map fun k=>(aC s k,dN known (aC s k),()):=by
  unfold dv
  have e1:((List.range s.length).filter fun k => !decide (k∈(List.range s.length).filter fun k=>decide (aC s k∈ask)))=(List.range s.length).filter fun k => !decide (aC s k∈ask):=by
   refine List.filter_congr fun k hk => ?_
   congr 1
   rw[Bool.eq_iff_iff,decide_eq_true_eq,decide_eq_true_eq,List.mem_filter,decide_eq_true_eq]
   exact⟨fun h=>h.2,fun h=>⟨hk,h⟩⟩
  rw[e1]
  refine List.map_congr_left fun k hk => ?_
  rw[List.mem_filter] at hk
  rw[qv (cP hs) k,if_pos hk.2]
 rw[O7]
 refine h0.trans ?_
 rw[List.nil_append,List.nil_append,k1,k2,←hd]
 refine Og hs hg _ _ (Nat.le_refl _) (List.Pairwise.filter _ List.nodup_range) (fun k hk => ?_)
 rw[List.mem_filter,List.mem_range] at hk
 exact⟨hk.1,by rw[hk.2]; rfl⟩
end
end Go.Proofs.YtnodjiikdgmeaaaGreatDoor.Abs
