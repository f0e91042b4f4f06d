/- Plain laws: drawn bytes: what the drawing functions give has small sizes, and they always give something. -/
import Derived.Test.YtddiiceaindlhaaGreatDoorZP3
import Derived.Test.YtddiiceaindlhaaGreatDoorZP4
set_option linter.unusedVariables false
set_option linter.unusedSimpArgs false
set_option linter.unusedSectionVars false
namespace Go.Proofs.YtddiiceaindlhaaGreatDoor.Abs
open Go
def Ok {α:Type} (P:α→Prop) (o:Option α):Prop := ∃ a,o=some a∧P a
theorem Ok.one {α:Type} {P:α→Prop} {a:α} (h:P a):Ok P (some a):=⟨a,rfl,h⟩
theorem Ok.bnd {α β:Type} {P:α→Prop} {Q:β→Prop} {o:Option α} {f:α→Option β} (h:Ok P o) (k : ∀ a,P a→Ok Q (f a)):Ok Q (o.bind f):=by
 obtain⟨a,e,p⟩:=h
 rw[e]
 exact k a p
theorem Ok.ite {α:Type} {c:Prop} [Decidable c] {Q:α→Prop} {a b:Option α} (h:c→Ok Q a) (k : ¬c→Ok Q b):Ok Q (if c then a else b):=by
 by_cases e:c
 ·rw[if_pos e]; exact h e
 ·rw[if_neg e]; exact k e
theorem Ok.inb {α β:Type} {Q:β→Prop} {xs:List α} {i:Int} {k:Option β} (h:0≤i∧i < (xs.length:Int)) (hk:Ok Q k):Ok Q (inb xs i k):=by
 rw[iZ h.1 h.2]; exact hk
theorem Ok.cats {β:Type} {Q:β→Prop} {a b:ByteArray} {f:ByteArray→Option β} (h:a.size+b.size≤9223372036854775807) (hk:Ok Q (f (a++b))):Ok Q (cats a b f):=by
 rw[j0 h]; exact hk
theorem Ok.nz {β:Type} {Q:β→Prop} {b:Int} {k:Option β} (h:b≠0) (hk:Ok Q k):Ok Q (nz b k):=by
 rw[TX h]; exact hk
theorem Ok.app {α β:Type} {Q:β→Prop} {a b:List α} {n:Nat} {f:List α→Option β} (h:(a.length+b.length)*n≤140737488355328) (hk:Ok Q (f (a++b))):Ok Q (app a b n f):=by
 rw[bo h]; exact hk
theorem Ok.mono {α:Type} {P Q:α→Prop} {o:Option α} (h:Ok P o) (k : ∀ a,P a→Q a):Ok Q o:=by
 obtain⟨a,e,p⟩:=h
 exact⟨a,e,k a p⟩
theorem P9 {l:List ByteArray} {n:Nat} (h : ∀ x∈l,x.size≤n) (i:Nat) (d:ByteArray) (hd:d.size≤n):(l.getD i d).size≤n:=by
 rw[List.getD_eq_getElem?_getD]
 by_cases e:i < l.length
 ·rw[List.getElem?_eq_getElem e]; exact h _ (List.getElem_mem e)
 ·rw[List.getElem?_eq_none (by omega)]; exact hd
structure TL (c:List Int):Prop where
 len:c.length≤1048576
 all : ∀ b∈c,0≤b∧b≤255
section
variable {c:List Int} (hc:TL c)
include hc
end
theorem Ok.inbL {β:Type} {Q:β→Prop} {l:List ByteArray} {i n:Int} {k:Option β} (d:ByteArray) (h0:0≤i) (h1:i < n) (hl:n=(l.length:Int)) (hs : ∀ x∈l,x.size≤20) (hd:d.size≤20) (hk:(l.getD i.toNat d).size≤20→Ok Q k):Ok Q (Abs.inb l i k) :=
 Ok.inb ⟨h0,by omega⟩ (hk (P9 hs _ _ hd))
section
end
end Go.Proofs.YtddiiceaindlhaaGreatDoor.Abs
set_option linter.unusedVariables false
set_option linter.unusedSimpArgs false
set_option linter.unusedSectionVars false
namespace Go.Proofs.YtddiiceaindlhaaGreatDoor.Abs
open Go
section
variable {c:List Int} (hc:TL c)
include hc
end
noncomputable def xk (s:List ab) (r:ai) (x:ByteArray):List ab×Bool :=
 if aY s=true∧ar r=true∧(eX x).2=true∧(fi s r (eX x).1).length≤120 then(fi s r (eX x).1,true) else([],false)
theorem Qa {s:List ab} {r:ai} {x:ByteArray} (hl:s.length≤1000000) (hs : ∀ c∈s,c.2.1.size≤9223372036854775807) (hx:x.size≤9223372036854775807):Js s r x=some (((xk s r x).1,(xk s r x).2,()),()):=by
 rw[O7,(tQ hx).2.1,mB hs (by omega),gB]
 simp only[Option.bind_some]
 unfold xk
 cases h1:aY s with
 | false=>simp
 | true =>
  cases h2:ar r with
  | false=>simp
  | true =>
   cases h3:(eX x).2 with
   | false=>simp
   | true =>
    rw[Hx hl]
    simp only[Option.bind_some,Bool.not_true,Bool.false_eq_true,if_false]
    by_cases h4:(fi s r (eX x).1).length≤120
    ·rw[av (by omega),if_pos (by simp[h4])]
    ·rw[aD (by omega),if_neg (by simp[h4])]
def Uh (s:List ab):Prop:=s.length≤121 ∧ ∀ c∈s,c.2.1.size≤6401
theorem Uh.sz {s:List ab} (h:Uh s) : ∀ c∈s,c.2.1.size≤9223372036854775807:=fun c hc=>Nat.le_trans (h.2 c hc) (by decide)
section
variable {c:List Int} (hc:TL c)
include hc
end
end Go.Proofs.YtddiiceaindlhaaGreatDoor.Abs
set_option linter.unusedVariables false
set_option linter.unusedSimpArgs false
set_option linter.unusedSectionVars false
namespace Go.Proofs.YtddiiceaindlhaaGreatDoor.Abs
open Go
def dd (b:ai):List ai→List ai
 | []=>[]
 | y :: ys=>if y=b then dd y ys else y :: dd y ys
def TM:List ai→List ai
 | []=>[]
 | c :: l=>c :: dd c l
theorem Qb {q:ai} : ∀ {l:List ai} {c:ai},q∈c :: dd c l↔q∈c :: l
 | [],c=>Iff.rfl
 | y :: ys,c=>by
  have ih:=Qb (q:=q) (l:=ys) (c:=y)
  unfold dd
  by_cases h:y=c
  ·rw[if_pos h]
   subst h
   rw[ih,List.mem_cons,List.mem_cons,List.mem_cons]
   constructor
   ·rintro(h | h)
    ·exact .inl h
    ·exact .inr (.inr h)
   ·rintro(h | h | h)
    ·exact .inl h
    ·exact .inl h
    ·exact .inr h
  ·rw[if_neg h,List.mem_cons,ih,List.mem_cons (a:=q) (b:=c)]
theorem Qc : ∀ {l:List ai} {c:ai},((c :: l).Pairwise fun a b=>aR b a=false)→C7 (c :: dd c l)
 | [],c,_=>List.pairwise_singleton _ _
 | y :: ys,c,h=>by
  have h1:=List.pairwise_cons.1 h
  have ih:=Qc (l:=ys) (c:=y) h1.2
  unfold dd
  by_cases e:y=c
  ·rw[if_pos e]
   subst e
   exact ih
  ·rw[if_neg e]
   have hcy:aR c y=true:=by
    rcases mC c y with k | k | k
    ·exact k
    ·exact absurd k.symm e
    ·rw[h1.1 y (by simp)] at k
     cases k
   refine List.pairwise_cons.2 ⟨fun d hd => ?_,ih⟩
   rcases List.mem_cons.1 hd with rfl | hd
   ·exact hcy
   ·exact eP hcy ((List.pairwise_cons.1 ih).1 d hd)
theorem TN {a b:ai}:(bB an a b=false)=(a≠b):=by
 rw[←Bool.not_eq_true]
 exact congrArg Not pc
theorem yx : ∀(ys kept junk:List ai) (b:ai) (base x2:Nat),base+x2=kept.length+junk.length+1→1≤x2→kept.length+junk.length+ys.length+1≤1000000000→dT (kept.length:Int) (base:Int) (x2:Int) (kept++junk++b :: ys)=some ((kept++dd b ys,()),())
 | [],kept,junk,b,base,x2,hb,h1,hl=>by
  have hlen:((kept++junk++[b]).length:Int)=(base:Int)+x2:=by simp only[List.length_append,List.length_singleton]; omega
  rw[jN,av (by omega),if_pos (by omega),if_pos (by simp only[List.length_append,List.length_singleton]; omega),Pi (by omega) (by simp only[List.length_append,List.length_take,List.length_replicate,List.length_singleton,Int.toNat_natCast]; omega)]
  simp[dd]
 | y :: ys,kept,junk,b,base,x2,hb,h1,hl=>by
  rw[List.length_cons] at hl
  have hlen:((kept++junk++b :: y :: ys).length:Int)=(base:Int)+x2+1+ys.length:=by simp only[List.length_append,List.length_cons]; omega
  have g1:List.getD (kept++junk++b :: y :: ys) (Int.toNat ((base:Int)+x2)) an.dflt=y:=by
   have:(base:Int)+(x2:Int)=((kept++junk++[b]).length:Int):=by simp only[List.length_append,List.length_singleton]; omega
   rw[this,show kept++junk++b :: y :: ys=(kept++junk++[b])++y :: ys by simp]
   exact fU
  have w1:IntKind.i64.wrap ((x2:Int) - 1)=(x2:Int) - 1:=wr (by omega) (by omega)
  have w2:IntKind.i64.wrap ((x2:Int)+1)=((x2+1:Nat):Int):=by rw[wr (by omega) (by omega)]; omega
  have g2:List.getD (kept++junk++b :: y :: ys) (Int.toNat ((base:Int)+((x2:Int) - 1))) an.dflt=b:=by
   have:(base:Int)+((x2:Int) - 1)=((kept++junk).length:Int):=by simp only[List.length_append]; omega
   rw[this]
   exact fU
  rw[jN,aD (by omega),if_pos (by omega),if_pos (by omega),w1,if_pos (by omega),if_pos (by omega),g1,g2]
  unfold dd
  by_cases e:y=b
  ·rw[if_pos e,pc.mpr e,if_neg (by decide),w2]
   have ih:=yx ys kept (junk++[b]) y base (x2+1) (by simp only[List.length_append,List.length_singleton]; omega) (by omega) (by simp only[List.length_append,List.length_singleton]; omega)
   rw[show kept++(junk++[b])++y :: ys=kept++junk++b :: y :: ys by simp] at ih
   exact ih
  ·rw[if_neg e,TN.mpr e,if_pos (by rfl),if_pos (by omega),if_pos (by omega),iZ (by omega) (by simp only[List.length_append,List.length_cons]; omega),w2,wr (by omega) (by omega)]
   obtain⟨z,zs,hz⟩ : ∃ z zs,junk++[b]=z :: zs:=by
    cases junk with
    | nil=>exact⟨b,[],rfl⟩
    | cons z zs=>exact⟨z,zs++[b],rfl⟩
   have hzl:zs.length=junk.length:=by
    have:=congrArg List.length hz
    simp only[List.length_append,List.length_cons,List.length_nil] at this
    omega
   have ih:=yx ys (kept++[y]) zs y base (x2+1) (by simp only[List.length_append,List.length_singleton]; omega) (by omega) (by simp only[List.length_append,List.length_singleton]; omega)
   have e1:List.set (kept++junk++b :: y :: ys) (Int.toNat (kept.length:Int)) y=kept++[y]++zs++y :: ys:=by
    have:kept++junk++b :: y :: ys=kept++z :: (zs++y :: ys):=by
     rw[show kept++junk++b :: y :: ys=kept++((junk++[b])++y :: ys) by simp,hz]
     simp
    rw[this,DQ]
    simp
   rw[e1]
   have e2:((kept++[y]).length:Int)=(kept.length:Int)+1:=by simp
   rw[e2] at ih
   rw[ih]
   simp
theorem E6 : ∀(ys pre:List ai) (b:ai),pre.length+ys.length+1≤1000000000→fm ((pre.length:Int)+1) (pre++b :: ys)=some ((pre++b :: dd b ys,()),())
 | [],pre,b,hl=>by
  rw[jK,av (by simp only[List.length_append,List.length_singleton]; omega)]
  rfl
 | y :: ys,pre,b,hl=>by
  rw[List.length_cons] at hl
  have g1:List.getD (pre++b :: y :: ys) (Int.toNat ((pre.length:Int)+1)) an.dflt=y:=by
   have:(pre.length:Int)+1=((pre++[b]).length:Int):=by simp
   rw[this,show pre++b :: y :: ys=(pre++[b])++y :: ys by simp]
   exact fU
  have w1:IntKind.i64.wrap ((pre.length:Int)+1 - 1)=(pre.length:Int):=by rw[wr (by omega) (by omega)]; omega
  have w2:IntKind.i64.wrap ((pre.length:Int)+1+1)=(pre.length:Int)+1+1:=wr (by omega) (by omega)
  rw[jK,aD (by simp only[List.length_append,List.length_cons]; omega),iZ (by omega) (by simp only[List.length_append,List.length_cons]; omega),w1,fJ (xs:=pre++b :: y :: ys) rfl,g1,fU]
  unfold dd
  by_cases e:y=b
  ·rw[if_pos e,pc.mpr e,if_pos rfl,if_pos (by omega),if_pos (by simp only[List.length_append,List.length_cons]; omega)]
   have:=yx ys (pre++[b]) [] y (pre.length+1) 1 (by simp) (by omega) (by simp only[List.length_append,List.length_singleton,List.length_nil]; omega)
   simp only[List.append_nil,List.append_assoc,List.singleton_append,List.length_append,List.length_singleton] at this
   exact this
  ·rw[if_neg e,TN.mpr e,if_neg (by decide),w2]
   have ih:=E6 ys (pre++[b]) y (by simp only[List.length_append,List.length_singleton]; omega)
   simp only[List.append_assoc,List.singleton_append,List.length_append,List.length_singleton] at ih
   exact ih
theorem NY {l:List ai} (hl:l.length≤1000000000):jt l=some ((TM l,()),()):=by
 rw[ua]
 cases l with
 | nil=>rfl
 | cons c l =>
  cases l with
  | nil=>rfl
  | cons d l =>
   rw[av (by simp only[List.length_cons]; omega)]
   exact E6 (d :: l) [] c (by simp only[List.length_nil,List.length_cons] at hl ⊢; omega)
theorem Rx {s:List ai} (hl:s.length≤1000000000):dV s=some ((),(cW (α:=an.den) aR s,())):=by
 rw[kv]
 unfold dz
 simp only[gI?,dite_true,Option.bind_some,if_true]
 exact if_pos (by omega)
theorem NZ:Sort.SWO (α:=an.den) aR:=NP
theorem N0 (l:List ai):TM (cW (α:=an.den) aR l)=rq l:=by
 have hp:=mi NZ l
 have hs:=rh NZ l
 refine Rj ?_ (C9 l) fun q => ?_
 ·cases hq:cW (α:=an.den) aR l with
  | nil=>exact List.Pairwise.nil
  | cons c m =>
   rw[hq] at hs
   exact Qc hs
 ·rw[Da,←hp.mem_iff]
  cases hq:cW (α:=an.den) aR l with
  | nil=>exact Iff.rfl
  | cons c m=>exact Qb
section
variable {ls:List (List ab)} (hls:ls.length≤10)
include hls
theorem HD {s:List ab} {i:Int} (hs:s.length≤2000000) : ∀(ys pre:List ab) (acc:List ai),s=pre++ys→acc.length+ys.length≤100000000→r8 ls (ls.length:Int) i s (s.length:Int) (pre.length:Int) acc=oT ls (ls.length:Int) (IntKind.i64.wrap (i+1)) (acc++fN ys)
 | [],pre,acc,h,ha=>by
  rw[yP,av (bO h)]
  simp[fN]
 | y :: ys,pre,acc,h,ha=>by
  rw[List.length_cons] at ha
  rw[yP,aD (bP h),bv h,bo (by simp only[List.length_singleton]; omega),aX h (by omega),HD hs ys _ _ (aK h) (by simp only[List.length_append,List.length_singleton]; omega)]
  simp[fN]
theorem E7 (hs : ∀ s∈ls,s.length≤2000000) : ∀(ys pre:List (List ab)) (acc:List ai),ls=pre++ys→acc.length≤2000000*pre.length→oT ls (ls.length:Int) (pre.length:Int) acc=some ((rq (acc++ys.flatMap fN),()),())
 | [],pre,acc,h,ha=>by
  have hp:pre.length≤10:=by rw[h] at hls; simpa using hls
  rw[yM,av (bO h),Rx (by omega),Option.bind_some]
  have hl:=(mi NZ acc).length_eq
  rw[NY (by rw[hl]; omega),Option.bind_some,N0]
  simp
 | y :: ys,pre,acc,h,ha=>by
  have hp:pre.length < 10:=by rw[h] at hls; simp only[List.length_append,List.length_cons] at hls; omega
  have hy:=hs y (by rw[h]; simp)
  have e:=HD hls (i:=(pre.length:Int)) hy y [] acc rfl (by omega)
  rw[yM,aD (bP h),bv h]
  refine e.trans ?_
  rw[aX h (by omega),E7 hs ys _ _ (aK h) (by simp only[List.length_append,List.length_singleton,fN,List.length_map]; omega)]
  simp
theorem N1 (hs : ∀ s∈ls,s.length≤2000000):FI ls=some ((rq (ls.flatMap fN),()),()):=by
 rw[No]
 have:=E7 hls hs ls [] [] rfl (by simp)
 simpa using this
end
section
variable {a b:List ab} (ha:a.length≤2000000) (hb:b.length≤2000000)
include ha hb
theorem yy {P:List ai} (hP:P.length≤10000000) : ∀(ys pre:List ai) (acc:List aH),P=pre++ys→acc.length+ys.length≤100000000→tq a b (P.length:Int) (pre.length:Int) acc P=some ((acc++(ys.map (RU a b)).filter (fun c => !decide (c.2.1=c.2.2.1)),()),())
 | [],pre,acc,h,hc=>by
  rw[Cf,av (bO h)]
  simp
 | y :: ys,pre,acc,h,hc=>by
  rw[List.length_cons] at hc
  have hg:List.getD P (Int.toNat (pre.length:Int)) an.dflt=y:=by rw[h]; exact fU
  rw[Cf,aD (bP h),fJ h,hg,Ao (by omega),Option.bind_some,Ao (by omega),Option.bind_some]
  dsimp only
  rw[Um,aX h (by omega)]
  by_cases e:dn y a=dn y b
  ·rw[decide_eq_true e,if_neg (by decide),yy hP ys _ _ (aK h) (by omega)]
   simp[RU,e]
  ·rw[decide_eq_false e,if_pos (by rfl),bo (by simp only[List.length_singleton]; omega),yy hP ys _ _ (aK h) (by simp only[List.length_append,List.length_singleton]; omega)]
   simp[RU,e]
theorem Ry:MP a b=some ((pd a b,()),()):=by
 rw[QW,N1 (by simp) (by intro s hs; simp only[List.mem_cons,List.not_mem_nil,or_false] at hs; rcases hs with rfl | rfl <;> assumption),Option.bind_some]
 have hP:=Db ([a,b].flatMap fN)
 have hl:([a,b].flatMap fN).length=a.length+b.length:=by simp[fN]
 dsimp only
 have:=yy ha hb (P:=rq ([a,b].flatMap fN)) (by omega) (rq ([a,b].flatMap fN)) [] [] rfl (by simp only[List.length_nil]; omega)
 refine this.trans ?_
 unfold pd
 simp
end
noncomputable def TO (a b:List ab):List aH:=if aY a=true∧aY b=true then pd a b else []
section
variable {a b:List ab} (ha:a.length≤2000000) (hb:b.length≤2000000) (hsa : ∀ c∈a,c.2.1.size≤9223372036854775807) (hsb : ∀ c∈b,c.2.1.size≤9223372036854775807)
include ha hb hsa hsb
omit hsa hsb in
theorem i8 : ∀(l m pl pm:List ab) (acc:List aH),a=pl++l→b=pm++m→acc.length+l.length+m.length≤100000000→aQ a b (pl.length:Int) (pm.length:Int) acc=some ((acc++jR l m,()),())
 | [],[],pl,pm,acc,h1,h2,hc=>by
  rw[mS,av (bO h1),av (bO h2)]
  unfold jR
  simp
 | x :: l,[],pl,pm,acc,h1,h2,hc=>by
  rw[List.length_cons] at hc
  have hk:((pm.length:Int) == (b.length:Int))=true:=by rw[h2]; simp
  have ih:=fun acc hc=>i8 l [] (pl++[x]) pm acc (aK h1) h2 hc
  have hdf:jR (x :: l) []=cC (x.1,x.2.1,eS,()) (jR l []):=by conv=>lhs; unfold jR
  rw[mS,aD (bP h1),if_pos hk,bv h1,bv h1,Un,aX h1 (by omega),bo (by simp only[List.length_singleton]; omega),ih _ (by first | omega | (simp only[List.length_append,List.length_singleton,List.length_nil,List.length_cons] at hc ⊢; omega)),ih _ (by first | omega | (simp only[List.length_append,List.length_singleton,List.length_nil,List.length_cons] at hc ⊢; omega)),hdf]
  unfold cC
  by_cases e:x.2.1=eS <;> simp[e]
 | [],y :: m,pl,pm,acc,h1,h2,hc=>by
  rw[List.length_cons] at hc
  have hi:((pl.length:Int) == (a.length:Int))=true:=by rw[h1]; simp
  have hk : ¬((pm.length:Int) == (b.length:Int))=true:=by
   have:=bP h2
   simp only[beq_iff_eq]
   omega
  have ih:=fun acc hc=>i8 [] m pl (pm++[y]) acc h1 (aK h2) hc
  rw[mS,av (bO h1),aD (bP h2),if_neg hk,av (bO h1),if_pos hi,bv h2,bv h2,aX h2 (by omega),bo (by simp only[List.length_singleton]; omega),ih _ (by first | omega | (simp only[List.length_append,List.length_singleton,List.length_nil,List.length_cons] at hc ⊢; omega)),ih _ (by first | omega | (simp only[List.length_append,List.length_singleton,List.length_nil,List.length_cons] at hc ⊢; omega))]
  rw[show(ByteArray.toList (⟨#[]⟩:ByteArray) == ByteArray.toList y.2.1)=decide (eS=y.2.1) from jE]
  have hdf:jR [] (y :: m)=cC (y.1,eS,y.2.1,()) (jR [] m):=by conv=>lhs; unfold jR
  rw[hdf]
  unfold cC
  by_cases e:eS=y.2.1 <;> simp[e]
 | x :: l,y :: m,pl,pm,acc,h1,h2,hc=>by
  rw[List.length_cons,List.length_cons] at hc
  have hi : ¬((pl.length:Int) == (a.length:Int))=true:=by
   have:=bP h1
   simp only[beq_iff_eq]
   omega
  have hk : ¬((pm.length:Int) == (b.length:Int))=true:=by
   have:=bP h2
   simp only[beq_iff_eq]
   omega
  have i1:=fun acc hc=>i8 l (y :: m) (pl++[x]) pm acc (aK h1) h2 hc
  have i2:=fun acc hc=>i8 (x :: l) m pl (pm++[y]) acc h1 (aK h2) hc
  have i3:=fun acc hc=>i8 l m (pl++[x]) (pm++[y]) acc (aK h1) (aK h2) hc
  rw[mS,aD (bP h1),if_neg hk,aD (bP h1)]
  simp only[bv h1,bv h2,vF,Option.bind_some]
  rw[if_neg hi]
  have e0:(ByteArray.toList (⟨#[]⟩:ByteArray) == ByteArray.toList y.2.1)=decide (eS=y.2.1):=jE
  have e1:(ByteArray.toList x.2.1 == ByteArray.toList (⟨#[]⟩:ByteArray))=decide (x.2.1=eS):=jE
  have e2:(ByteArray.toList x.2.1 == ByteArray.toList y.2.1)=decide (x.2.1=y.2.1):=jE
  rw[e0,e1,e2,aX h1 (by omega),aX h2 (by omega)]
  rw[bo (by simp only[List.length_singleton]; omega),bo (by simp only[List.length_singleton]; omega),bo (by simp only[List.length_singleton]; omega)]
  rw[i1 _ (by first | omega | (simp only[List.length_append,List.length_singleton,List.length_nil,List.length_cons] at hc ⊢; omega)),i1 _ (by first | omega | (simp only[List.length_append,List.length_singleton,List.length_nil,List.length_cons] at hc ⊢; omega)),i2 _ (by first | omega | (simp only[List.length_append,List.length_singleton,List.length_nil,List.length_cons] at hc ⊢; omega)),i2 _ (by first | omega | (simp only[List.length_append,List.length_singleton,List.length_nil,List.length_cons] at hc ⊢; omega)),i3 _ (by first | omega | (simp only[List.length_append,List.length_singleton,List.length_nil,List.length_cons] at hc ⊢; omega)),i3 _ (by first | omega | (simp only[List.length_append,List.length_singleton,List.length_nil,List.length_cons] at hc ⊢; omega))]
  have hdf:jR (x :: l) (y :: m)=if aR x.1 y.1=true then cC (x.1,x.2.1,eS,()) (jR l (y :: m)) else if aR y.1 x.1=true then cC (y.1,eS,y.2.1,()) (jR (x :: l) m) else cC (x.1,x.2.1,y.2.1,()) (jR l m):=by conv=>lhs; unfold jR
  rw[hdf]
  cases k1:aR x.1 y.1 with
  | true =>
   simp only[if_true]
   unfold cC
   by_cases e:x.2.1=eS <;> simp[e]
  | false =>
   simp only[Bool.false_eq_true,if_false]
   cases k2:aR y.1 x.1 with
   | true =>
    simp only[if_true]
    unfold cC
    by_cases e:eS=y.2.1 <;> simp[e]
   | false =>
    simp only[Bool.false_eq_true,if_false]
    unfold cC
    by_cases e:x.2.1=y.2.1 <;> simp[e]
termination_by l m=>l.length+m.length
theorem N2:FH a b=some ((TO a b,()),()):=by
 rw[Nn,mB hsa (by omega),Option.bind_some]
 dsimp only
 unfold TO
 cases h1:aY a with
 | false=>simp
 | true =>
  rw[if_neg (by decide),mB hsb (by omega),Option.bind_some]
  dsimp only
  cases h2:aY b with
  | false=>simp
  | true =>
   rw[if_neg (by decide)]
   refine(i8 ha hb a b [] [] [] rfl rfl (by simp only[List.length_nil]; omega)).trans ?_
   rw[Tz (qz h1) (qz h2)]
   simp
end
end Go.Proofs.YtddiiceaindlhaaGreatDoor.Abs
set_option linter.unusedVariables false
set_option linter.unusedSimpArgs false
set_option linter.unusedSectionVars false
namespace Go.Proofs.YtddiiceaindlhaaGreatDoor.Abs
open Go
theorem Mt {α β:Type} {pre ys:List α} {y:α} {k:Option β}:inb (pre++y :: ys) (pre.length:Int) k=k:=fJ rfl
theorem Qd {α β:Type} {pre ys:List α} {y d:α} {f:α→Option β}:ix (pre++y :: ys) (pre.length:Int) d f=f y:=bv rfl
theorem yX : ∀(n m:Nat) (acc:ByteArray),m≤n→acc.size+n≤1000000000000000000 → ∃ t,oS (m:Int) acc=some ((t,()),())
 | n,0,acc,h,ha=>by
  rw[uL,av (by decide),j0 (by show 1+acc.size≤_; omega)]
  exact⟨_,rfl⟩
 | 0,m+1,acc,h,ha=>by omega
 | n+1,m+1,acc,h,ha=>by
  have hd:(m+1) / 10≤n:=by omega
  have hs:(strOfNums ([(IntKind.u8.wrap (IntKind.i64.wrap (48+(Int.tmod ((m+1:Nat):Int) 10))))]:List Int)).size=1:=rfl
  obtain⟨t,ht⟩:=yX n ((m+1) / 10) (strOfNums ([(IntKind.u8.wrap (IntKind.i64.wrap (48+(Int.tmod ((m+1:Nat):Int) 10))))]:List Int)++acc) hd (by rw[ByteArray.size_append,hs]; omega)
  rw[uL,aD (by omega),j0 (by rw[hs]; omega)]
  have e:IntKind.i64.wrap (Int.tdiv ((m+1:Nat):Int) 10)=(((m+1) / 10:Nat):Int):=by
   have:Int.tdiv ((m+1:Nat):Int) 10=(((m+1) / 10:Nat):Int):=rfl
   rw[this,wr (by omega) (by omega)]
  rw[e]
  exact⟨t,ht⟩
theorem Cp {k:Int} (h0:0≤k) (h1:k≤100000000000000) : ∃ t,nw k=some ((t,()),()):=by
 obtain⟨n,rfl⟩:=Int.eq_ofNat_of_zero_le h0
 rw[JN]
 by_cases h:(n:Int)≤0
 ·rw[aD h]
  exact⟨_,rfl⟩
 ·rw[av h]
  exact yX n n _ (Nat.le_refl _) (by show 0+n≤_; omega)
theorem Mu {α β:Type} {pre ys:List α} {y d:α} {f:α→α} {k:List α→β}:m8 d (pre++y :: ys) (pre.length:Int) f k=k (pre++f y :: ys):=by
 unfold m8
 rw[fU,DQ]
theorem Az {α:Type} {M:Int→Int→List α→Option ((Int×Unit)×(List α×Unit))} {H:List α→Int→Int→Option ((Int×Unit)×Unit)} {w:Nat} (hw:w≤10)
  (hM : ∀ k pre y ys,0≤k→k≤10000000000000→(pre++y :: ys).length≤1000000000 → ∃ z,M k (pre.length:Int) (pre++y :: ys)=M (k+w) ((pre.length:Int)+1) (pre++z :: ys) ∧ ∀ pre' ys',(pre'++z :: ys').length≤1000000000→H (pre'++z :: ys') k (pre'.length:Int)=H (pre'++z :: ys') (k+w) ((pre'.length:Int)+1))
  (hM0 : ∀ k pre,M k (pre.length:Int) pre=some ((k,()),(pre,()))) (hH0 : ∀ k pre,H pre k (pre.length:Int)=some ((k,()),())) :
  ∀(ys pre:List α) (k:Int),0≤k→k+10*ys.length≤10000000000000→(pre++ys).length≤1000000000 → ∃ zs,zs.length=ys.length∧M k (pre.length:Int) (pre++ys)=some ((k+w*ys.length,()),(pre++zs,())) ∧ ∀ pre',pre'.length+ys.length≤1000000000→H (pre'++zs) k (pre'.length:Int)=some ((k+w*ys.length,()),())
 | [],pre,k,h0,h1,hl=>by
  refine⟨[],rfl,?_,fun pre' _ => ?_⟩
  ·rw[List.append_nil,hM0]
   simp
  ·rw[List.append_nil,hH0]
   simp
 | y :: ys,pre,k,h0,h1,hl=>by
  rw[List.length_cons] at h1
  obtain⟨z,hz1,hz2⟩:=hM k pre y ys h0 (by omega) hl
  obtain⟨zs,e0,e1,e2⟩:=Az hw hM hM0 hH0 ys (pre++[z]) (k+w) (by omega) (by omega) (by simp only[List.length_append,List.length_cons,List.length_nil] at hl ⊢; omega)
  have ek:k+(w:Int)+(w:Int)*(ys.length:Int)=k+(w:Int)*((y :: ys).length:Int):=by
   rw[List.length_cons,Int.natCast_add,Int.mul_add]
   omega
  refine⟨z :: zs,by simp[e0],?_,fun pre' hp => ?_⟩
  ·rw[hz1]
   have:((pre++[z]).length:Int)=(pre.length:Int)+1:=by simp
   rw[this] at e1
   have e3:pre++[z]++ys=pre++z :: ys:=by simp
   have e4:pre++[z]++zs=pre++z :: zs:=by simp
   rw[e3,e4,ek] at e1
   exact e1
  ·rw[List.length_cons] at hp
   rw[hz2 pre' zs (by simp only[List.length_append,List.length_cons]; omega)]
   have:=e2 (pre'++[z]) (by simp only[List.length_append,List.length_singleton]; omega)
   have e5:((pre'++[z]).length:Int)=(pre'.length:Int)+1:=by simp
   have e4:pre'++[z]++zs=pre'++z :: zs:=by simp
   rw[e5,e4,ek] at this
   exact this
theorem mF {s:List ab} {k:Int} (h0:0≤k) (h1:k+10*s.length≤10000000000000) (hl:s.length≤1000000000) : ∃ zs,zs.length=s.length∧gW k s=some ((k+3*s.length,()),(zs,()))∧lG zs k=some ((k+3*s.length,()),()):=by
 obtain⟨zs,e0,e1,e2⟩:=Az (M:=fun k i s=>ko k i s) (H:=fun s k i=>mP s k i) (w:=3) (by decide) (fun k pre y ys h0 h1 hl=>by
  have hp:pre.length < 1000000000:=by simp only[List.length_append,List.length_cons] at hl; omega
  obtain⟨t,ht⟩:=Cp (k:=k+1+1) (by omega) (by omega)
  refine⟨((k,k+1,()),t,()),?_,fun pre' ys' hl' => ?_⟩
  ·rw[q4,aD sU]
   simp only[Mt,fU,DQ,Mu]
   have a1:IntKind.i64.wrap (k+1)=k+1:=wr (by omega) (by omega)
   have a2:IntKind.i64.wrap (k+1+1)=k+1+1:=wr (by omega) (by omega)
   have a3:IntKind.i64.wrap (k+1+1+1)=k+3:=by rw[wr (by omega) (by omega)]; omega
   have a4:IntKind.i64.wrap ((pre.length:Int)+1)=(pre.length:Int)+1:=wr (by omega) (by omega)
   simp only[a1,a2,a3,a4,ht,Option.bind_some]
   rfl
  ·have hp':pre'.length < 1000000000:=by simp only[List.length_append,List.length_cons] at hl'; omega
   rw[tH,aD sU]
   simp only[Qd]
   have a1:IntKind.i64.wrap (k+1)=k+1:=wr (by omega) (by omega)
   have a2:IntKind.i64.wrap (k+1+1)=k+1+1:=wr (by omega) (by omega)
   have a3:IntKind.i64.wrap (k+1+1+1)=k+3:=by rw[wr (by omega) (by omega)]; omega
   have a4:IntKind.i64.wrap ((pre'.length:Int)+1)=(pre'.length:Int)+1:=wr (by omega) (by omega)
   simp only[a1,a2,a3,a4,ht,Option.bind_some]
   simp)
  (fun k pre=>by rw[q4,av (Int.lt_irrefl _)]) (fun k pre=>by rw[tH,av (Int.lt_irrefl _)]) s [] k h0 h1 (by simpa using hl)
 refine⟨zs,e0,?_,?_⟩
 ·rw[Er]
  exact e1
 ·rw[Ib]
  exact e2 [] (by simp; omega)
end Go.Proofs.YtddiiceaindlhaaGreatDoor.Abs
