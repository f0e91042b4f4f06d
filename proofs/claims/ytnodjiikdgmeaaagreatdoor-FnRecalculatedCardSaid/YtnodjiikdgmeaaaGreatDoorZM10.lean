/- Plain laws: sheets behind the opening or the closing of rows, behind a copy, behind an area cleared. -/
import Derived.Test.YtnodjiikdgmeaaaGreatDoorZM9
import Derived.Test.YtnodjiikdgmeaaaGreatDoorZM8
import Derived.Test.YtnodjiikdgmeaaaGreatDoorZM5
set_option linter.unusedVariables false
set_option linter.unusedSimpArgs false
set_option linter.unusedSectionVars false
namespace Go.Proofs.YtnodjiikdgmeaaaGreatDoor.Abs
open Go
section
end
section
end
section
variable {c:List Int} (hc:EB c)
include hc
theorem YN {β:Type} {Q:β→Prop} {s:aV} (n:Nat) {m:Int} {f:(ByteArray×Unit)×aV×Unit→Option β} (e:m=(n:Int)) (hn:n≤3) (h:Rd c s) (k : ∀ z,z.1.1.size≤6400→Rd c z.2.1→Ok Q (f z)):Ok Q ((bg m s).bind f):=by
 subst e
 have h4:4 ^ n≤64:=Nat.le_trans (Nat.pow_le_pow_right (n:=4) (by decide) hn) (by decide)
 exact Ok.bnd (No hc n hn h) fun z hz=>k z (by have:=hz.1; omega) hz.2
set_option maxHeartbeats 4000000 in
theorem Wr {s:aV} (h:Rd c s):Ok (fun z=>z.1.1.size≤6401∧Rd c z.2.1) (jW s):=by
 rw[H4]
 repeat' first
  | refine Dy hc (by assumption) (by decide) fun _ _ _ _ => ?_
  | refine YN hc 2 rfl (by decide) (by assumption) fun _ _ _ => ?_
  | refine YN hc 1 rfl (by decide) (by assumption) fun _ _ _ => ?_
  | refine Sb (by omega) (by omega) fun _ _ => ?_
  | refine Ok.inbL ⟨#[]⟩ (by assumption) (by assumption) (by decide) (by decide) (by decide) fun _ => ?_
  | (refine Ok.cats (by simp only[W1]; omega) ?_; try dsimp only)
  | refine Ok.ite (fun _ => ?_) fun _ => ?_
  | refine Ok.one ⟨?_,by assumption⟩
 all_goals (try dsimp only)
 all_goals (try simp only[size_append,W1])
 all_goals first | omega | decide
end
noncomputable def zm (s:List ae) (r:al) (x:ByteArray):List ae×Bool :=
 if aW s=true∧bK r=true∧(fE x).2=true∧(nW s r (fE x).1).length≤120 then(nW s r (fE x).1,true) else([],false)
theorem CJ {s:List ae} {r:al} {x:ByteArray} (hl:s.length≤1000000) (hs : ∀ c∈s,c.2.1.size≤9223372036854775807) (hx:x.size≤9223372036854775807):yk s r x=some (((zm s r x).1,(zm s r x).2,()),()):=by
 rw[Tv,(zj hx).2.1,lM hs (by omega),mM]
 simp only[Option.bind_some]
 unfold zm
 cases h1:aW s with
 | false=>simp
 | true =>
  cases h2:bK r with
  | false=>simp
  | true =>
   cases h3:(fE x).2 with
   | false=>simp
   | true =>
    rw[UB hl]
    simp only[Option.bind_some,Bool.not_true,Bool.false_eq_true,if_false]
    by_cases h4:(nW s r (fE x).1).length≤120
    ·rw[ax (by omega),if_pos (by simp[h4])]
    ·rw[aF (by omega),if_neg (by simp[h4])]
def qJ (s:List ae):Prop:=s.length≤121 ∧ ∀ c∈s,c.2.1.size≤6401
theorem qJ.sz {s:List ae} (h:qJ s) : ∀ c∈s,c.2.1.size≤9223372036854775807:=fun c hc=>Nat.le_trans (h.2 c hc) (by decide)
def IE (s:List ae):Prop:=s.length≤120 ∧ ∀ c∈s,c.2.1.size≤6401
theorem IE.up {s:List ae} (h:IE s):qJ s:=⟨by have:=h.1; omega,h.2⟩
theorem Ws {s:List ae} {r:al} {x:ByteArray} {n:Nat} (hs : ∀ c∈s,c.2.1.size≤n) (hx:x.size≤n) : ∀ c∈nW s r x,c.2.1.size≤n:=by
 intro c hc
 rcases uE.1 hc with h | ⟨_,rfl⟩
 ·exact hs c h.1
 ·exact hx
theorem CK {s:List ae} {r:al} {x:ByteArray} (h : ∀ c∈s,c.2.1.size≤6401):IE (zm s r x).1:=by
 unfold zm
 split
 ·rename_i k
  exact⟨k.2.2.2,Ws h (Nat.le_trans (Kb x) (by decide))⟩
 ·exact⟨Nat.zero_le _,fun c hc=>by cases hc⟩
theorem XO {β:Type} {Q:β→Prop} {s:List ae} {r:al} {x:ByteArray} {f:((List ae)×Bool×Unit)×Unit→Option β} (h:qJ s) (hx:x.size≤6401) (k : ∀ z,IE z.1.1→Ok Q (f z)):Ok Q ((yk s r x).bind f) :=
 Ok.bnd (P:=fun z=>IE z.1.1) ⟨_,CJ (by have:=h.1; omega) h.sz (by omega),CK h.2⟩ k
section
variable {c:List Int} (hc:EB c)
include hc
theorem DK {β:Type} {Q:β→Prop} {s:aV} {f:(ByteArray×Unit)×aV×Unit→Option β} (h:Rd c s) (k : ∀ z,z.1.1.size≤6401→Rd c z.2.1→Ok Q (f z)):Ok Q ((jW s).bind f):=Ok.bnd (Wr hc h) fun z hz=>k z hz.1 hz.2
theorem CL : ∀(n:Nat) {s:aV} {out:List ae},n≤1000→Rd c s→IE out→Ok (fun z=>qJ z.1.1∧Rd c z.2.1) (kA (n:Int) s out)
 | 0,s,out,_,h,ho=>by
  rw[tG,ax (by decide)]
  refine Nn hc h (by decide) fun z hz=>Ok.ite (fun _ => ?_) fun _=>Ok.one ⟨ho.up,hz⟩
  refine Dz hc hz fun y _ hy=>DK hc hy fun x hx hz' => ?_
  have hl:=ho.1
  refine Ok.app (by simp only[List.length_singleton]; omega) (Ok.one ⟨⟨by simp only[List.length_append,List.length_singleton]; omega,fun d hd => ?_⟩,hz'⟩)
  rcases List.mem_append.1 hd with hd | hd
  ·exact ho.2 d hd
  ·rw[List.mem_singleton.1 hd]
   exact hx
 | n+1,s,out,hn,h,ho=>by
  have hw:IntKind.i64.wrap (((n+1:Nat):Int) - 1)=(n:Int):=by rw[wr (by omega) (by omega)]; omega
  rw[tG,aF (by omega),hw]
  refine Dz hc h fun y _ hy=>DK hc hy fun x hx hz=>XO ho.up hx fun w hw=>Ok.ite (fun _ => ?_) fun _ => ?_
  ·exact CL n (by omega) hz hw
  ·exact CL n (by omega) hz ho
end
theorem Zt (a b:al):bv am a b=decide (a=b):=by
 by_cases h:a=b
 ·rw[decide_eq_true h]; exact(kD rfl).2 h
 ·rw[decide_eq_false h,Bool.eq_false_iff]; exact fun k=>h ((kD rfl).1 k)
theorem CM {α:Type} [DecidableEq α] {d:α} {xs ys:List α} {P:Int→Option ((Bool×Unit)×Unit)} (hl:xs.length≤1000000000) (hxy:ys.length=xs.length)
  (hP : ∀ i,P i=if(decide (i < (List.length xs:Int)))=true then(ix xs i d fun y1=>(ix ys i d fun y2=>(if(!(decide (y1=y2)))=true then(some ((false,()),(()))) else(P (IntKind.i64.wrap (i+1)))))) else(some ((true,()),(())))) : ∀(a b pa pb:List α),xs=pa++a→ys=pb++b→pa.length=pb.length→P (pa.length:Int)=some ((decide (a=b),()),())
 | [],b,pa,pb,ha,hb,hp=>by
  have:b=[]:=by
   have e:=congrArg List.length ha
   have e':=congrArg List.length hb
   simp only[List.length_append,List.length_nil] at e e'
   exact List.length_eq_zero_iff.1 (by omega)
  rw[hP,ax (bw ha),this]
  rfl
 | x :: a,[],pa,pb,ha,hb,hp=>by
  have e:=congrArg List.length ha
  have e':=congrArg List.length hb
  simp only[List.length_append,List.length_nil,List.length_cons] at e e'
  omega
 | x :: a,y :: b,pa,pb,ha,hb,hp=>by
  rw[hP,aF (bH ha),bC ha,hp,bC hb,←hp,aO ha (by omega),CM hl hxy hP a b (pa++[x]) (pb++[y]) (av ha) (av hb) (by simp[hp])]
  by_cases e:x=y
  ·rw[decide_eq_true e]
   subst e
   simp
  ·rw[decide_eq_false e]
   simp[e]
theorem UC {α:Type} {xs ys:List α}:((xs.length:Int) != (ys.length:Int)) = !decide (xs.length=ys.length):=by
 by_cases h:xs.length=ys.length
 ·simp[h]
 ·have:(xs.length:Int)≠(ys.length:Int):=by omega
  simp[h,this]
theorem ND {xs ys:List al} (hl:xs.length≤1000000000):wy xs ys=some ((decide (xs=ys),()),()):=by
 rw[MA,UC]
 by_cases h:xs.length=ys.length
 ·rw[decide_eq_true h,if_neg (by decide)]
  exact CM (d:=am.dflt) (P:=fun i=>qq xs ys i) hl h.symm (fun i=>by rw[GT]; simp only[Zt]) xs ys [] [] rfl rfl rfl
 ·rw[decide_eq_false h,if_pos (by rfl),decide_eq_false (fun e=>h (congrArg _ e))]
abbrev Zm:=Int×al×ByteArray×aM×Int×Int×Unit
theorem YO {s:List ae} {r:al} {x:ByteArray} (hx:x.size≤9223372036854775807) (h:(zm s r x).2=true):aW (zm s r x).1=true:=by
 unfold zm at h ⊢
 by_cases k:aW s=true∧bK r=true∧(fE x).2=true∧(nW s r (fE x).1).length≤120
 ·rw[if_pos k]
  exact OV k.1 k.2.1 (fun hne=>(XM hx k.2.2.1).resolve_left hne) k.2.2.2
 ·rw[if_neg k] at h
  cases h
section
variable {s a:List ae} (hs:aW s=true) (ha:aW a=true)
include hs ha
end
section
variable {s:List ae} {a:aM} (hs : ∀ c∈s,c.2.1.size≤9223372036854775807) (hl:s.length≤1000000)
include hs hl
end
theorem Wt {x:ByteArray} {f:List aa} (h:bI x=some f):(lb x).head? = some 61∧(fe (ba ((lb x).drop 1))).2=true∧f=(fe (ba ((lb x).drop 1))).1:=by
 unfold bI at h
 split at h
 ·rename_i k
  cases h
  exact⟨k.1,k.2,rfl⟩
 ·cases h
theorem Ze {x:ByteArray} (hx:x.size≤9223372036854775807):zT x=some (((bI x).getD [],(bI x).isSome,()),()):=by
 have hl:(lb x).length≤9223372036854775807:=by rw[jy]; exact hx
 have hc:cu x (⟨#[61]⟩:ByteArray)=some ((ba (if [61].isPrefixOf (lb x)=true then(lb x).drop 1 else lb x),[61].isPrefixOf (lb x),()),()):=by
  have:=s6 (lb x) [61] hl
  rwa[eO] at this
 have hsz:(ba ((lb x).drop 1)).size≤9223372036854775807:=by
  rw[ay,List.length_drop]
  omega
 have hp:List.isPrefixOf [61] (lb x)=decide ((lb x).head? = some 61):=by
  cases lb x with
  | nil=>rfl
  | cons b l =>
   by_cases h:b=61
   ·subst h
    rfl
   ·simp[List.isPrefixOf,h,Ne.symm h]
 rw[KI,hc,hp]
 simp only[Option.bind_some]
 unfold bI
 by_cases hb:(lb x).head? = some 61
 ·simp only[hb,decide_true,Bool.not_true,Bool.false_eq_true,if_false,if_true,true_and]
  rw[(qI hsz).2.1]
  simp only[Option.bind_some]
  cases hr:(fe (ba ((lb x).drop 1))).2 with
  | true=>rfl
  | false =>
   rw[(qI hsz).2.2.2 hr]
   rfl
 ·simp only[hb,decide_false,Bool.not_false,if_true,false_and,if_false]
  rfl
theorem W5 {x:ByteArray} (hx:x.size≤9223372036854775807):qf x=some (((bI x).getD [],(bI x).isSome,()),()):=by
 rw[KK]
 unfold bI
 cases hl':lb x with
 | nil =>
  have he:x=ba []:=by rw[←eO x,hl']
  have h2:(ByteArray.toList x == ByteArray.toList (⟨#[]⟩:ByteArray))=true:=by
   rw[he]
   have:(⟨#[]⟩:ByteArray)=ba []:=rfl
   rw[this,dL]
   simp
  rw[if_pos h2,if_neg (by simp)]
  rfl
 | cons b l =>
  have hx':x=ba (b :: l):=by rw[←hl',eO]
  subst hx'
  have hsz:(ba l).size≤9223372036854775807:=by
   rw[ay] at hx ⊢
   simp only[List.length_cons] at hx
   omega
  have he:(ByteArray.toList (ba (b :: l)) == ByteArray.toList (⟨#[]⟩:ByteArray))=false:=by
   have:(⟨#[]⟩:ByteArray)=ba []:=rfl
   rw[this,dL]
   simp
  rw[he,ot]
  simp only[Bool.false_eq_true,if_false]
  by_cases hb:b=61
  ·subst hb
   rw[if_neg (by decide)]
   have hsl : ∀(k:ByteArray→Option ((List aa×(Bool×Unit))×Unit)),iT (ba (61 :: l)) 1 k=k (ba l):=fun k=>by
    have:=fR (l:=61 :: l) (n:=1) (f:=k) (by simp)
    exact this
   rw[hsl,(qI hsz).1]
   simp only[Option.bind_some,List.head?_cons,true_and,List.drop_succ_cons,List.drop_zero]
   cases hr:(fe (ba l)).2 with
   | true=>rfl
   | false =>
    rw[(qI hsz).2.2.2 hr]
    rfl
  ·have hb':((b.toNat:Int) != 61)=true:=by
    rw[bne_iff_ne]
    intro h
    apply hb
    apply UInt8.toNat_inj.1
    have:((61:UInt8).toNat)=61:=rfl
    omega
   rw[if_pos hb']
   simp only[List.head?_cons,Option.some.injEq,hb,false_and,if_false]
   rfl
section
variable {f:List aa} (hf:eH f=true)
include hf
end
section
variable {x:ByteArray} (hx:x.size≤9223372036854775807)
include hx
end
def au (s:List ae) (i:Nat):al:=(s.getD i ap.dflt).1
def bS (s:List ae) (i:Nat):ByteArray:=(s.getD i ap.dflt).2.1
noncomputable def ii (s:List ae) (i:Nat):List aM:=cF ((bI (bS s i)).getD [])
def qK (s:List ae) (ar:List aM):List Nat:=(List.range s.length).filter fun k=>ar.any fun a=>dG a (au s k)
noncomputable def bk (s:List ae) (i:Nat):List Nat:=qK s (ii s i)
def aB (s:List ae) (F:Nat→ab):List ac:=(List.range s.length).map fun k=>(au s k,F k,())
theorem jz {s:List ae} {ar:List aM} {k:Nat}:k∈qK s ar↔k < s.length∧(ar.any fun a=>dG a (au s k))=true:=by
 unfold qK
 rw[List.mem_filter,List.mem_range]
theorem DL {s:List ae} : ∀ i,∀ k∈bk s i,k∈List.range s.length:=fun i k hk=>List.mem_range.2 (jz.1 hk).1
theorem vO (s:List ae) (ar:List aM) (F:Nat→ab):jm ar (aB s F)=(qK s ar).map fun k=>(au s k,F k,()):=by
 unfold jm aB qK
 rw[List.filter_map]
 rfl
theorem YP {s:List ae} {ar:List aM} {F G:Nat→ab} (h : ∀ k∈qK s ar,F k=G k):jm ar (aB s F)=jm ar (aB s G):=by
 rw[vO,vO]
 exact List.map_congr_left fun k hk=>by rw[h k hk]
theorem CN {f:List aa} {l m:List ac} (hf:eH f=true) (h:jm (cF f) l=jm (cF f) m):gh f l=gh f m:=by
 rw[←Nt (l:=l) hf,←Nt (l:=m) hf,h]
theorem uq {s:List ae} {i:Nat} {f:List aa} {F G:Nat→ab} (hx:(bS s i).size≤9223372036854775807) (hf:bI (bS s i)=some f) (h : ∀ k∈bk s i,F k=G k):gh f (aB s F)=gh f (aB s G):=by
 refine CN (j8 hf hx) (YP fun k hk=>h k ?_)
 unfold bk ii
 rw[hf]
 exact hk
section
variable (s:List ae) (told:Nat→Bool) (given:Nat→ab)
def W6 (i:Nat):Prop:=told i=true∨bI (bS s i)=none∨dh (bk s) i i
open Classical in
noncomputable def lT:Nat→Nat→ab
 | 0,_=>v0
 | n+1,i=>if told i=true then given i else match bI (bS s i) with
  | none=>(bb (lb (bS s i))).1
  | some f=>if dh (bk s) i i then vE 5 else gh f (aB s (lT n))
noncomputable def dd (i:Nat):ab:=lT s told given (s.length+1) i
variable {s told given}
theorem UD {i:Nat} (h:W6 s told i) (n m:Nat):lT s told given (n+1) i=lT s told given (m+1) i:=by
 unfold lT
 by_cases ht:told i=true
 ·rw[if_pos ht,if_pos ht]
 ·rw[if_neg ht,if_neg ht]
  cases hf:bI (bS s i) with
  | none=>rfl
  | some f =>
   by_cases hr:dh (bk s) i i
   ·simp only[if_pos hr]
   ·rcases h with h | h | h
    ·exact absurd h ht
    ·rw[hf] at h; cases h
    ·exact absurd h hr
open Classical in
theorem Qg {i k:Nat} (hk:k∈bk s i):1≤tw (bk s) (List.range s.length) i:=by
 unfold tw
 have:k∈(List.range s.length).filter fun j=>decide (dh (bk s) i j):=List.mem_filter.2 ⟨DL i k hk,by
  rw[decide_eq_true_eq]
  exact .one hk⟩
 exact List.length_pos_of_mem this
theorem UE (i:Nat):tw (bk s) (List.range s.length) i≤s.length:=by
 unfold tw
 refine Nat.le_trans (List.length_filter_le _ _) ?_
 rw[List.length_range]
 exact Nat.le_refl _
theorem UF (hs : ∀ i,(bS s i).size≤9223372036854775807) {i n m:Nat} (ih : ∀ k∈bk s i,lT s told given n k=lT s told given m k):lT s told given (n+1) i=lT s told given (m+1) i:=by
 unfold lT
 by_cases ht:told i=true
 ·rw[if_pos ht,if_pos ht]
 ·rw[if_neg ht,if_neg ht]
  cases hf:bI (bS s i) with
  | none=>rfl
  | some f =>
   by_cases hr:dh (bk s) i i
   ·simp only[if_pos hr]
   ·simp only[if_neg hr]
    exact uq (hs i) hf ih
theorem EF (hs : ∀ i,(bS s i).size≤9223372036854775807) : ∀(n m i:Nat),tw (bk s) (List.range s.length) i < n→tw (bk s) (List.range s.length) i < m→lT s told given n i=lT s told given m i
 | 0,_,_,h,_=>by omega
 | _+1,0,_,_,h=>by omega
 | n+1,m+1,i,hn,hm=>by
  refine UF hs fun k hk => ?_
  have hp:=Qg hk
  by_cases hl:W6 s told k
  ·obtain⟨n',rfl⟩ : ∃ n',n=n'+1:=⟨n - 1,by omega⟩
   obtain⟨m',rfl⟩ : ∃ m',m=m'+1:=⟨m - 1,by omega⟩
   exact UD hl n' m'
  ·have hc:=yW (N:=List.range s.length) DL hk fun hr=>hl (.inr (.inr hr))
   exact EF hs n m k (by omega) (by omega)
open Classical in
theorem lN (hs : ∀ i,(bS s i).size≤9223372036854775807) (i:Nat):dd s told given i=if told i=true then given i else match bI (bS s i) with
  | none=>(bb (lb (bS s i))).1
  | some f=>if dh (bk s) i i then vE 5 else gh f (aB s (dd s told given)):=by
 have h1:dd s told given i=lT s told given (s.length+2) i:=EF hs _ _ i (by have:=UE (s:=s) i; omega) (by have:=UE (s:=s) i; omega)
 rw[h1]
 rfl
end
section
variable {α:Type}
theorem vP {p:α→Bool} : ∀(l:List α) (n:Nat),decide (kI p l n≥0)=l.any p
 | [],n=>by
  show decide ((-1:Int)≥0)=false
  decide
 | c :: l,n=>by
  unfold kI
  rw[List.any_cons]
  by_cases h:p c=true
  ·rw[if_pos h,h,Bool.true_or]
   exact decide_eq_true (by omega)
  ·rw[if_neg h,vP l (n+1)]
   simp[h]
theorem xi (l:List α) (d:α):(List.range l.length).map (fun i=>l.getD i d)=l:=by
 apply List.ext_getElem
 ·simp
 ·intro i h1 h2
  simp[List.getD_eq_getElem?_getD,h2]
theorem nE {l:List α} {d:α} {i:Nat} (h:i < l.length):l[i]? = some (l.getD i d):=by
 rw[List.getD_eq_getElem?_getD,List.getElem?_eq_getElem h]
 rfl
theorem hY {l:List α} {d:α} {i:Nat} (h:i < l.length):l.getD i d∈l:=List.mem_of_getElem? (nE h)
end
theorem jQ {α β:Type} {xs:List α} {i:Nat} {y d:α} {f:α→Option β} (h:xs[i]? = some y):ix xs (i:Int) d f=f y:=ca (nn _) h
theorem NE {f:List aa} (hf:f.length≤60) : ∀(ys pre:List aa) (acc:List aM),f=pre++ys→acc.length≤pre.length→lJ f (f.length:Int) (pre.length:Int) acc=some ((acc++cF ys,()),())
 | [],pre,acc,h,ha=>by
  rw[yL,ax (bw h)]
  simp[cF]
 | y :: ys,pre,acc,h,ha=>by
  have hlen:pre.length≤60:=by
   have:=congrArg List.length h
   simp only[List.length_append,List.length_cons] at this
   omega
  have ih:=NE hf ys (pre++[y])
  rw[yL,aF (bH h),bC h,aO h (by omega)]
  simp only[zb,Option.bind_some]
  have hsum:acc++[dy y]++cF ys=acc++(dy y :: cF ys):=by simp
  have happ:(acc.length+([dy y]:List aM).length)*32≤140737488355328:=by simp only[List.length_singleton]; omega
  by_cases h2:y.1=2
  ·rw[if_pos (by simpa using h2),bp happ,ih (acc++[dy y]) (av h) (by simp only[List.length_append,List.length_singleton]; omega),hsum]
   simp[cF,so,h2]
  ·rw[if_neg (by simpa using h2)]
   by_cases h3:y.1=3
   ·rw[if_pos (by simpa using h3),bp happ,ih (acc++[dy y]) (av h) (by simp only[List.length_append,List.length_singleton]; omega),hsum]
    simp[cF,so,h3]
   ·rw[if_neg (by simpa using h3),ih acc (av h) (by simp only[List.length_append,List.length_singleton]; omega)]
    simp[cF,so,h2,h3]
theorem UG {f:List aa} (hl:f.length≤60):zU f=some ((cF f,()),()):=by
 rw[OA,show(0:Int)=(([]:List aa).length:Int) from rfl,NE hl f [] [] rfl (Nat.le_refl _)]
 rfl
theorem NF {f:List aa} (hf:f.length≤60) : ∀(ys pre:List aa) (acc:List aM),f=pre++ys→acc.length≤pre.length→lK f (pre.length:Int) acc=some ((acc++cF ys,()),())
 | [],pre,acc,h,ha=>by
  rw[yM,ax (bw h)]
  simp[cF]
 | y :: ys,pre,acc,h,ha=>by
  have hlen:pre.length≤60:=by
   have:=congrArg List.length h
   simp only[List.length_append,List.length_cons] at this
   omega
  have ih:=NF hf ys (pre++[y])
  rw[yM,aF (bH h),bC h,aO h (by omega)]
  have hsum:acc++[dy y]++cF ys=acc++(dy y :: cF ys):=by simp
  have happ : ∀ a:aM,(acc.length+([a]:List aM).length)*32≤140737488355328:=fun a=>by simp only[List.length_singleton]; omega
  by_cases h2:y.1=2
  ·have ha2:(y.2.2.2.1.1,y.2.2.2.1.1,())=dy y:=by unfold dy; rw[if_pos h2]
   rw[if_pos (by simpa using h2)]
   simp only[bC h]
   rw[ha2,bp (happ _),ih (acc++[dy y]) (av h) (by simp only[List.length_append,List.length_singleton]; omega),hsum]
   simp[cF,so,h2]
  ·have ha3:(y.2.2.2.1.1,y.2.2.2.2.1.1,())=dy y:=by unfold dy; rw[if_neg h2]
   rw[if_neg (by simpa using h2)]
   by_cases h3:y.1=3
   ·rw[if_pos (by simpa using h3)]
    simp only[bC h]
    rw[ha3,bp (happ _),ih (acc++[dy y]) (av h) (by simp only[List.length_append,List.length_singleton]; omega),hsum]
    simp[cF,so,h3]
   ·rw[if_neg (by simpa using h3),ih acc (av h) (by simp only[List.length_append,List.length_singleton]; omega)]
    simp[cF,so,h2,h3]
theorem YQ {f:List aa} (hf:eH f=true):E4 f=some ((cF f,()),()):=by
 have hs:=vJ hf
 have hl:=hs.1
 rw[OE,lx (f:=f) (by omega) hs.2.1 hs.2.2,hf]
 simp only[Option.bind_some,Bool.not_true,Bool.false_eq_true,if_false]
 rw[show(0:Int)=(([]:List aa).length:Int) from rfl,NF hl f [] [] rfl (Nat.le_refl _)]
 rfl
noncomputable def Hw (x:ByteArray):List aM:=cF ((bI x).getD [])
theorem Sl (f:List aa):(cF f).length≤f.length:=by
 unfold cF
 rw[List.length_map]
 exact List.length_filter_le _ _
theorem IG {x:ByteArray} (hx:x.size≤9223372036854775807):((bI x).getD []).length≤60:=by
 cases h:bI x with
 | none=>exact Nat.zero_le _
 | some f=>exact(vJ (j8 h hx)).1
theorem DM {x:ByteArray} (hx:x.size≤9223372036854775807):(Hw x).length≤60:=Nat.le_trans (Sl _) (IG hx)
theorem EG {x:ByteArray} (hx:x.size≤9223372036854775807):u7 x=some ((Hw x,()),()):=by
 rw[OF,W5 hx,Option.bind_some]
 unfold Hw
 cases h:bI x with
 | none=>rfl
 | some f =>
  dsimp only[Option.isSome_some,Option.getD_some]
  rw[if_neg (by decide),YQ (j8 h hx)]
  rfl
theorem Wu {ar:List aM} {r:al} (hl:ar.length≤1000000000):b8 ar (ar.length:Int) 0 r=some ((kI (fun a=>dG a r) ar 0,()),(r,())):=by
 have:=vM (s:=ar) (d:=bG.dflt) (p:=fun a=>dG a r) (P:=fun j=>b8 ar (ar.length:Int) j r) (F:=fun j=>some ((j,()),(r,()))) (by omega) (fun j=>by
  rw[gM]
  simp only[Eo,Cv,Option.bind_some]) ar [] rfl
 exact this
theorem XP {ar:List aM} {n i:Int} {r:al}:fg ar n i r.1 r.2.1=b8 ar n i r:=by
 rw[nv,gM]
 simp only[Q7,Eo] <;> rfl
theorem NG {ar:List aM} (r:al) (hl:ar.length≤1000000000):KU ar r=some ((ar.any fun a=>dG a r,()),()):=by
 rw[Vx,nt,oY,XP,Wu hl]
 simp only[Option.bind_some,vP]
theorem EH {l:List al} {r:al} (hl:l.length≤1000000000) : ∀(ys pre:List al),l=pre++ys→wE l (pre.length:Int) r.1 r.2.1=some ((decide (r∈ys),()),())
 | [],pre,h=>by
  rw[Cc,ax (bw h)]
  simp
 | y :: ys,pre,h=>by
  rw[Cc,aF (bH h),bC h,aO h (by omega),EH hl ys _ (av h)]
  show(if bv am y r=true then _ else _)=_
  by_cases e:y=r
  ·rw[if_pos (by rw[mS]; exact e)]
   simp[e]
  ·rw[if_neg (by rw[mS]; exact e)]
   simp[Ne.symm e]
theorem tc {l:List al} (r:al) (hl:l.length≤1000000000):mv l r=some ((decide (r∈l),()),()):=by
 rw[TD]
 exact EH hl l [] rfl
theorem XQ {l:List al} {r:al} (hl:l.length≤1000000000):lR l r=some ((decide (r∈l),()),()):=by
 have h:gj l (l.length:Int) 0 r.1 r.2.1=some ((kI (fun y=>bv am r y) l 0,()),()):=vM (s:=l) (d:=am.dflt) (p:=fun y=>bv am r y) (P:=fun j=>gj l (l.length:Int) j r.1 r.2.1) (F:=fun j=>some ((j,()),())) (by omega) (fun j=>xu) l [] rfl
 rw[xt,Bn,h]
 simp only[Option.bind_some,vP]
 have e:(l.any fun y=>bv am r y)=decide (r∈l):=by
  rw[Bool.eq_iff_iff,List.any_eq_true,decide_eq_true_eq]
  constructor
  ·rintro⟨y,hy,h⟩
   rw[mS] at h
   rw[h]
   exact hy
  ·intro h
   exact⟨r,h,by rw[mS]⟩
 rw[e]
section
variable {s:List ae} (hl:s.length≤1000000) {ar:List aM} (ha:ar.length≤1000000)
include hl ha
theorem NH {y:ae} {pre ys:List ae} (h:s=pre++y :: ys) {acc:List al} : ∀(bs pa:List aM) (b:Bool),ar=pa++bs→ol s (pre.length:Int) b (pa.length:Int) acc ar=if(b || bs.any fun a=>dG a y.1)=true then app acc [y.1] 16 (fun y3=>jY s (IntKind.i64.wrap ((pre.length:Int)+1)) y3 ar) else jY s (IntKind.i64.wrap ((pre.length:Int)+1)) acc ar
 | [],pa,b,e=>by
  rw[yP,ax (bw e),bC h,List.any_nil,Bool.or_false]
 | a :: bs,pa,b,e=>by
  have ih:=NH h (acc:=acc) bs (pa++[a])
  rw[yP,aF (bH e),aO e (by omega)]
  cases b with
  | true =>
   rw[if_pos rfl,ih true (av e)]
   simp only[Bool.true_or]
  | false =>
   have hg:List.getD ar (Int.toNat (pa.length:Int)) bG.dflt=a:=by rw[e]; exact uz
   rw[if_neg (by decide),bC h,qr e,hg,vA,Option.bind_some,ih _ (av e)]
   simp only[List.any_cons,Bool.false_or]
theorem CO : ∀(ys pre:List ae) (acc:List al),s=pre++ys→acc.length≤pre.length→jY s (pre.length:Int) acc ar=some ((acc++(ys.filter fun c=>ar.any fun a=>dG a c.1).map (·.1),()),())
 | [],pre,acc,h,hb=>by
  rw[yN,ax (bw h)]
  simp
 | y :: ys,pre,acc,h,hb=>by
  have hlen:s.length=pre.length+(ys.length+1):=by rw[h]; simp
  have e:=NH hl ha h (acc:=acc) ar [] false rfl
  rw[yN,aF (bH h)]
  refine e.trans ?_
  rw[aO h (by omega),Bool.false_or]
  by_cases c:(ar.any fun a=>dG a y.1)=true
  ·rw[if_pos c,bp (by simp only[List.length_singleton]; omega),CO ys _ _ (av h) (by simp only[List.length_append,List.length_singleton]; omega),List.filter_cons_of_pos (p:=fun c:ae=>ar.any fun a=>dG a c.1) c]
   simp
  ·rw[if_neg c,CO ys _ _ (av h) (by simp only[List.length_append,List.length_singleton]; omega),List.filter_cons_of_neg (p:=fun c:ae=>ar.any fun a=>dG a c.1) c]
end
theorem Wv {s:List ae} (h:aW s=true) (r:al):(dk r s).size≤200:=by
 rcases FB (q:=r) (bP h) with⟨c,hc,_,e⟩ | ⟨_,e⟩
 ·rw[←e]
  exact mT h c hc
 ·rw[e]
  decide
theorem XR {s:List ae} (h:aW s=true) (r:al):oV s r=some (((s.filter fun c=>(Hw (dk r s)).any fun a=>dG a c.1).map (·.1),()),()):=by
 have h1:=aX h
 have h2:(dk r s).size≤9223372036854775807:=Nat.le_trans (Wv h r) (by decide)
 have h3:=DM h2
 rw[OG,NA (by omega),Option.bind_some,EG h2,Option.bind_some]
 dsimp only
 exact CO (by omega) (by omega) s [] [] rfl (Nat.le_refl _)
theorem XS (s:List ae) (ar:List aM):(qK s ar).map (au s)=(s.filter fun c=>ar.any fun a=>dG a c.1).map (·.1):=by
 have key : ∀ t:List ae,(List.range s.length).map (fun i=>s.getD i ap.dflt)=t→(qK s ar).map (au s)=(t.filter fun c=>ar.any fun a=>dG a c.1).map (·.1):=by
  rintro _ rfl
  rw[List.filter_map,List.map_map]
  rfl
 exact key s (xi s _)
theorem DN {s:List ae} (h:jn s) {i:Nat} (hi:i < s.length):dk (au s i) s=bS s i:=s9 h (hY hi)
theorem NI {s:List ae} (h:aW s=true) {i:Nat} (hi:i < s.length):oV s (au s i)=some (((bk s i).map (au s),()),()):=by
 rw[XR h,DN (bP h) hi]
 unfold bk
 rw[XS]
 rfl
theorem Hx {s pre ys:List ae} {y:ae} (h:s=pre++y :: ys):au s pre.length=y.1:=by
 unfold au
 rw[h,List.getD_eq_getElem?_getD]
 simp
noncomputable def gF (s:List ae):List (List aa):=s.map fun c=>(bI c.2.1).getD []
noncomputable def gL (s:List ae):List (List Int):=s.map fun c=>(qK s (Hw c.2.1)).map fun k:Nat=>(k:Int)
noncomputable def gr (s:List ae):List ae×(List (List aa)×(List (List Int)×Unit)):=(s,gF s,gL s,())
theorem Sm {s:List ae} {i:Nat} (h:i < s.length):(gF s)[i]? = some ((bI (bS s i)).getD []):=by
 unfold gF
 rw[List.getElem?_map,nE (d:=ap.dflt) h]
 rfl
theorem K3 {s:List ae} {i:Nat} (h:i < s.length):(gL s)[i]? = some ((bk s i).map fun k:Nat=>(k:Int)):=by
 unfold gL
 rw[List.getElem?_map,nE (d:=ap.dflt) h]
 rfl
theorem YR (s:List ae):(gL s).length=s.length:=by
 unfold gL
 rw[List.length_map]
theorem uF (s:List ae) (ar:List aM):(qK s ar).length≤s.length:=by
 unfold qK
 have:=List.length_filter_le (fun k=>ar.any fun a=>dG a (au s k)) (List.range s.length)
 rw[List.length_range] at this
 exact this
section
variable {s:List ae} (hl:s.length≤1000000) (hs : ∀ c∈s,c.2.1.size≤9223372036854775807)
include hl
theorem NJ {x0 x1:List ae} {x2 x3:Int} {x7 x11:List ae} {x12 x14:List (List aa)} {x13 x15:List (List Int)} {f:List aa} {ar:List aM} (ha:ar.length≤1000000) : ∀(ys pre:List ae) (acc:List Int),s=pre++ys→acc.length≤pre.length →
  mH x0 x1 x2 x3 s (s.length:Int) (pre.length:Int) x7 f ar acc x11 x12 x13 x14 x15=app x14 [f] 24 fun y3=>app x15 [acc++((List.range' pre.length ys.length).filter fun k=>ar.any fun a=>dG a (au s k)).map fun k:Nat=>(k:Int)] 24 fun y4=>mC x0 x1 x2 (IntKind.i64.wrap (x3+1)) x7 x11 x12 x13 y3 y4
 | [],pre,acc,h,hb=>by
  rw[wV,ax (bw h)]
  simp
 | y :: ys,pre,acc,h,hb=>by
  have hlen:s.length=pre.length+(ys.length+1):=by rw[h]; simp
  have ih:=NJ (x0:=x0) (x1:=x1) (x2:=x2) (x3:=x3) (x7:=x7) (x11:=x11) (x12:=x12) (x13:=x13) (x14:=x14) (x15:=x15) (f:=f) ha ys (pre++[y])
  have e0:(pre++[y]).length=pre.length+1:=by simp
  rw[wV,aF (bH h),bC h,NG _ (by omega),Option.bind_some,aO h (by omega)]
  rw[List.length_cons,List.range'_succ,List.filter_cons,Hx h]
  rw[e0] at ih
  dsimp only
  by_cases c:(ar.any fun a=>dG a y.1)=true
  ·rw[if_pos c,if_pos c,bp (by simp only[List.length_singleton]; omega),e0,ih _ (av h) (by simp only[List.length_append,List.length_singleton]; omega)]
   simp
  ·rw[if_neg c,if_neg c,e0,ih _ (av h) (by omega)]
include hs
theorem Kc : ∀(ys pre:List ae) (fs:List (List aa)) (ls:List (List Int)),s=pre++ys→fs.length=pre.length→ls.length=pre.length →
  mC s s (s.length:Int) (pre.length:Int) s [] [] [] fs ls=some (((s,fs++ys.map (fun c=>(bI c.2.1).getD []),ls++ys.map (fun c=>(qK s (Hw c.2.1)).map fun k:Nat=>(k:Int)),()),()),())
 | [],pre,fs,ls,h,h1,h2=>by
  rw[wN,ax (bw h)]
  simp
 | y :: ys,pre,fs,ls,h,h1,h2=>by
  have hlen:s.length=pre.length+(ys.length+1):=by rw[h]; simp
  have hy:y.2.1.size≤9223372036854775807:=hs y (by rw[h]; simp)
  have h3:=DM hy
  have hg:=NJ hl (x0:=s) (x1:=s) (x2:=(s.length:Int)) (x3:=(pre.length:Int)) (x7:=s) (x11:=[]) (x12:=[]) (x13:=[]) (x14:=fs) (x15:=ls) (f:=(bI y.2.1).getD []) (ar:=Hw y.2.1) (by omega) s [] [] rfl (Nat.le_refl _)
  rw[wN,aF (bH h),bC h,Ze hy,Option.bind_some,UG (IG hy),Option.bind_some]
  refine hg.trans ?_
  rw[bp (by simp only[List.length_singleton]; omega),bp (by simp only[List.length_singleton]; omega),aO h (by omega),Kc ys _ _ _ (av h) (by simp[h1]) (by simp[h2])]
  have e:((List.range' ([]:List ae).length s.length).filter fun k=>(Hw y.2.1).any fun a=>dG a (au s k))=qK s (Hw y.2.1):=by
   unfold qK
   rw[List.range_eq_range']
   rfl
  rw[e]
  simp
theorem qL:pq s=some ((gr s,()),()):=by
 rw[Mo]
 exact Kc hl hs s [] [] [] rfl rfl rfl
end
open Classical in
noncomputable def pf (s:List ae) (i:Nat):Bool:=decide (dh (bk s) i i)
open Classical in
theorem fi {s:List ae} {i:Nat}:pf s i=true↔dh (bk s) i i:=by
 unfold pf
 exact⟨fun h=>of_decide_eq_true h,fun h=>decide_eq_true h⟩
theorem rK : ∀(l:List Bool) (i:Nat),i < l.length→l.getD i false=false→(l.set i true).count false+1=l.count false
 | [],i,h,_=>by simp at h
 | b :: l,0,_,e=>by
  have e:b=false:=e
  subst e
  simp
 | b :: l,i+1,h,e=>by
  have:=rK l i (by simpa using h) e
  rw[List.set_cons_succ,List.count_cons,List.count_cons]
  omega
theorem mU (l:List Bool) (i k:Nat) (h:i < l.length):(l.set i true).getD k false=if k=i then true else l.getD k false:=by
 rw[List.getD_eq_getElem?_getD,List.getD_eq_getElem?_getD,List.getElem?_set]
 by_cases e:k=i
 ·subst e
  simp[h]
 ·rw[if_neg (fun x=>e x.symm),if_neg e]
theorem vQ : ∀(n:Nat) (l:List Nat),l.Nodup→(∀ k∈l,k < n)→l.length≤n
 | 0,l,_,h=>by
  cases l with
  | nil=>exact Nat.le_refl _
  | cons a l=>have:=h a (by simp); omega
 | n+1,l,hd,h=>by
  by_cases hm:n∈l
  ·have h1:=vQ n (l.erase n) (hd.erase n) (fun k hk=>by
    have h2:=(hd.mem_erase_iff).1 hk
    have:=h k h2.2
    have:=h2.1
    omega)
   rw[List.length_erase_of_mem hm] at h1
   omega
  ·have h1:=vQ n l hd (fun k hk=>by
    have:=h k hk
    have:k≠n:=fun e=>hm (e ▸ hk)
    omega)
   omega
theorem II {s:List ae} {i:Nat} (h:i < s.length):au s i=s[i].1:=by
 unfold au
 rw[List.getD_eq_getElem?_getD,List.getElem?_eq_getElem h]
 rfl
theorem UH {s:List ae} (hs:jn s) {i j:Nat} (h:i < j) (hj:j < s.length):ci (au s i) (au s j)=true:=by
 have hi:i < s.length:=by omega
 rw[II hi,II hj]
 exact List.pairwise_iff_getElem.1 hs i j hi hj h
theorem rL {s:List ae} (hs:jn s) {i j:Nat} (hi:i < s.length) (hj:j < s.length) (h:au s i=au s j):i=j:=by
 rcases Nat.lt_trichotomy i j with k | k | k
 ·exact absurd h (rJ (UH hs k hj))
 ·exact k
 ·exact absurd h.symm (rJ (UH hs k hi))
theorem Hy {s:List ae} (hs:jn s) {k:Nat} {t:List Nat} (hk:k < s.length) (ht : ∀ j∈t,j < s.length):au s k∈t.map (au s)↔k∈t:=by
 rw[List.mem_map]
 constructor
 ·rintro⟨j,hj,e⟩
  rw[←rL hs (ht j hj) hk e]
  exact hj
 ·intro h
  exact⟨k,h,rfl⟩
theorem ij {s:List ae} {i k:Nat} (h:k∈bk s i):k < s.length:=List.mem_range.1 (DL i k h)
theorem dh.lt {s:List ae} {i k:Nat} (h:dh (bk s) i k):k < s.length:=by
 cases h with
 | one e=>exact ij e
 | more _ e=>exact ij e
section
variable {s:List ae} (hn:s.length≤120)
include hn
theorem xD {a:Nat} (ha:a < s.length) : ∀(m:Nat) (met:List Bool) (pre ys:List Nat),met.length=s.length→(∀ k∈pre++ys,k < s.length∧dh (bk s) a k)→(∀ k∈bk s a,k∈pre++ys)→(∀ k∈pre,k≠a)→(∀ k∈pre,met.getD k false=true)→(∀ k,met.getD k false=true → ∀ j∈bk s k,j∈pre++ys) →
  met.count false*120+ys.length≤m→met.count false*120+pre.length+ys.length≤20000→gp (a:Int) (pre.length:Int) s (gF s) (gL s) met ((pre++ys).map fun k:Nat=>(k:Int))=some ((pf s a,()),())
 | m,met,pre,[],h0,h1,h2,h3,h4,h5,hm,hb=>by
  have e:pf s a=false:=by
   rw[Bool.eq_false_iff,ne_eq,fi]
   intro h
   have:=dh.closed (Q:=fun k=>k∈pre) (fun k hk=>by simpa using h2 k hk) (fun j hj k hk=>by simpa using h5 j (h4 j hj) k hk) h
   exact h3 _ this rfl
  rw[qU,ax (by simp),e]
 | 0,met,pre,y :: ys,h0,h1,h2,h3,h4,h5,hm,hb=>by
  rw[List.length_cons] at hm
  omega
 | m+1,met,pre,y :: ys,h0,h1,h2,h3,h4,h5,hm,hb=>by
  rw[List.length_cons] at hm hb
  obtain⟨hy,hr⟩:=h1 y (by simp)
  have hg:List.getD ((pre++y :: ys).map fun k:Nat=>(k:Int)) (Int.toNat (pre.length:Int)) 0=(y:Int):=by
   rw[List.getD_eq_getElem?_getD]
   simp
  have hlt:(pre.length:Int) < (((pre++y :: ys).map fun k:Nat=>(k:Int)).length:Int):=by
   simp only[List.length_map,List.length_append,List.length_cons]
   omega
  have hw:IntKind.i64.wrap ((pre.length:Int)+1)=((pre++[y]).length:Int):=by
   rw[kH (by omega) (by omega)]
   simp
  have hmet:Int.toNat (y:Int)=y:=rfl
  rw[qU,aF hlt,bD (nn _) hlt,hg]
  by_cases e:y=a
  ·subst e
   rw[if_pos (beq_self_eq_true _),fi.2 hr]
  ·rw[if_neg (by rw[beq_iff_eq]; omega),bD (xs:=met) (nn _) (by omega),hmet]
   by_cases hc:met.getD y false=true
   ·rw[hc,if_neg (by decide),hw,show pre++y :: ys=(pre++[y])++ys by simp]
    refine xD ha m met (pre++[y]) ys h0 (fun k hk=>h1 k (by simpa using hk)) (fun k hk=>by simpa using h2 k hk) (fun k hk => ?_) (fun k hk => ?_) (fun k hk j hj=>by simpa using h5 k hk j hj) (by omega) (by simp only[List.length_append,List.length_singleton]; omega)
    ·rcases List.mem_append.1 hk with hk | hk
     ·exact h3 k hk
     ·rw[List.mem_singleton.1 hk]
      exact e
    ·rcases List.mem_append.1 hk with hk | hk
     ·exact h4 k hk
     ·rw[List.mem_singleton.1 hk]
      exact hc
   ·have hc:met.getD y false=false:=by simpa using hc
    have hcs:=rK met y (by omega) hc
    have hil:=uF s (ii s y)
    have hil:(bk s y).length≤s.length:=hil
    rw[hc,if_pos (by decide),bD (xs:=met) (nn _) (by omega),jQ (K3 hy),bp (by simp only[List.length_map,List.length_append,List.length_cons]; omega),hw]
    have eq:((pre++y :: ys).map fun k:Nat=>(k:Int))++((bk s y).map fun k:Nat=>(k:Int))=(((pre++[y])++(ys++bk s y)).map fun k:Nat=>(k:Int)):=by simp
    have em : ∀ k,k∈(pre++[y])++(ys++bk s y)↔k∈pre++y :: ys∨k∈bk s y:=fun k=>by simp[or_assoc]
    rw[eq]
    refine xD ha m (met.set y true) (pre++[y]) (ys++bk s y) (by rw[List.length_set]; exact h0) (fun k hk => ?_) (fun k hk=>(em k).2 (.inl (h2 k hk))) (fun k hk => ?_) (fun k hk => ?_) (fun k hk j hj => ?_) (by rw[List.length_append]; omega) (by simp only[List.length_append,List.length_singleton]; omega)
    ·rcases(em k).1 hk with hk | hk
     ·exact h1 k hk
     ·exact⟨ij hk,.more hr hk⟩
    ·rcases List.mem_append.1 hk with hk | hk
     ·exact h3 k hk
     ·rw[List.mem_singleton.1 hk]
      exact e
    ·rw[mU _ _ _ (by omega)]
     rcases List.mem_append.1 hk with hk | hk
     ·rw[h4 k hk]
      split <;> rfl
     ·rw[List.mem_singleton.1 hk,if_pos rfl]
    ·rw[mU _ _ _ (by omega)] at hk
     rw[em]
     by_cases ek:k=y
     ·subst ek
      exact .inr hj
     ·rw[if_neg ek] at hk
      exact .inl (h5 k hk j hj)
theorem Sn {l:List Int} (h:l.length≤1000000):gx l=some ((l,()),()):=by
 rw[uh]
 unfold fm
 simp only[kP?,dite_true,Option.bind_some]
 exact if_pos (by omega)
theorem Kd {a:Nat} (ha:a < s.length):jr (gr s) (a:Int)=some ((pf s a,()),()):=by
 have hil:(bk s a).length≤s.length:=uF s (ii s a)
 rw[Fa]
 show(D1 (s.length:Int) 1 false fun y1=>(ix (gL s) (a:Int) ([]:(List Int)) fun y2=>((gx y2).bind fun z1=>(gp (a:Int) 0 s (gF s) (gL s) y1 z1.1.1))))=_
 rw[B5 (by omega),jQ (K3 ha),Sn hn (by rw[List.length_map]; omega),Option.bind_some]
 have hc:(List.replicate s.length false).count false=s.length:=by simp
 refine xD hn ha (s.length*120+120) (List.replicate s.length false) [] (bk s a) (by simp) (fun k hk => ?_) (fun k hk=>by simpa using hk) (fun k hk=>by cases hk) (fun k hk=>by cases hk) (fun k hk j hj => ?_) (by omega) (by rw[hc,List.length_nil]; omega)
 ·have hk:k∈bk s a:=by simpa using hk
  exact⟨ij hk,.one hk⟩
 ·rw[List.getD_eq_getElem?_getD,List.getElem?_replicate] at hk
  split at hk <;> cases hk
end
def vR:List Nat→List Nat→List Nat
 | t,[]=>t
 | t,k :: ks=>if k∈t then vR t ks else vR (t++[k]) ks
theorem IJ : ∀(ks t:List Nat),t.Nodup→(∃ ex,vR t ks=t++ex)∧(vR t ks).Nodup ∧ ∀ j,j∈vR t ks↔j∈t∨j∈ks
 | [],t,h=>⟨⟨[],by simp[vR]⟩,h,fun j=>by simp[vR]⟩
 | k :: ks,t,h=>by
  unfold vR
  by_cases hk:k∈t
  ·rw[if_pos hk]
   obtain⟨h1,h2,h3⟩:=IJ ks t h
   refine⟨h1,h2,fun j => ?_⟩
   rw[h3,List.mem_cons]
   constructor
   ·rintro(e | e)
    ·exact .inl e
    ·exact .inr (.inr e)
   ·rintro(e | e | e)
    ·exact .inl e
    ·rw[e]
     exact .inl hk
    ·exact .inr e
  ·rw[if_neg hk]
   have hd:(t++[k]).Nodup:=by
    rw[List.nodup_append]
    refine⟨h,by simp,fun a ha b hb => ?_⟩
    rw[List.mem_singleton.1 hb]
    exact fun e=>hk (e ▸ ha)
   obtain⟨⟨ex,h1⟩,h2,h3⟩:=IJ ks (t++[k]) hd
   refine⟨⟨k :: ex,by rw[h1]; simp⟩,h2,fun j => ?_⟩
   rw[h3,List.mem_append,List.mem_singleton,List.mem_cons,or_assoc]
section
variable {s:List ae} (hs:aW s=true)
include hs
theorem IK {i:Int} {r:al} {more:List Nat} (hm : ∀ k∈more,k < s.length) (hml:more.length≤120) : ∀(ys pre t:List Nat),more=pre++ys→(∀ k∈t,k < s.length)→t.length+ys.length≤1000000 →
  mI s i (pre.length:Int) r.1 r.2.1 (t.map (au s)) (more.map (au s))=mD s (IntKind.i64.wrap (i+1)) r.1 r.2.1 ((vR t ys).map (au s))
 | [],pre,t,h,ht,hb=>by
  have e:=bw h
  rw[wX,ax (by rw[List.length_map]; exact e)]
  rfl
 | y :: ys,pre,t,h,ht,hb=>by
  rw[List.length_cons] at hb
  have hlen:more.length=pre.length+(ys.length+1):=by rw[h]; simp
  have hlt:(pre.length:Int) < ((more.map (au s)).length:Int):=by rw[List.length_map]; exact bH h
  have hg:List.getD (more.map (au s)) (Int.toNat (pre.length:Int)) am.dflt=au s y:=by
   rw[h,List.getD_eq_getElem?_getD]
   simp
  have hy:=hm y (by rw[h]; simp)
  have hw:IntKind.i64.wrap ((pre.length:Int)+1)=((pre++[y]).length:Int):=aO h (by omega)
  rw[wX,aF hlt,bD (nn _) hlt,hg,tc _ (by rw[List.length_map]; omega),Option.bind_some,hw]
  have hd:decide (au s y∈t.map (au s))=decide (y∈t):=by
   rw[Bool.eq_iff_iff,decide_eq_true_eq,decide_eq_true_eq]
   exact Hy (bP hs) hy ht
  dsimp only
  rw[hd]
  unfold vR
  by_cases e:y∈t
  ·rw[if_pos e,decide_eq_true e,if_neg (by decide)]
   exact IK hm hml ys _ t (av h) ht (by omega)
  ·rw[if_neg e,decide_eq_false e,if_pos (by decide),bD (nn _) hlt,bp (by simp only[List.length_map,List.length_singleton]; omega),show t.map (au s)++[au s y]=(t++[y]).map (au s) by simp]
   refine IK hm hml ys _ (t++[y]) (av h) (fun k hk => ?_) (by simp only[List.length_append,List.length_singleton]; omega)
   rcases List.mem_append.1 hk with hk | hk
   ·exact ht k hk
   ·rw[List.mem_singleton.1 hk]
    exact hy
theorem NL {a:Nat} (ha:a < s.length) : ∀(m:Nat) (pre ys:List Nat),(pre++ys).Nodup→(∀ k∈pre++ys,k < s.length∧dh (bk s) a k)→(∀ k∈bk s a,k∈pre++ys)→(∀ k∈pre,k≠a)→(∀ k∈pre,∀ j∈bk s k,j∈pre++ys)→s.length≤pre.length+m →
  mD s (pre.length:Int) (au s a).1 (au s a).2.1 ((pre++ys).map (au s))=some ((pf s a,()),())
 | m,pre,[],hd,h1,h2,h3,h5,hm=>by
  have e:pf s a=false:=by
   rw[Bool.eq_false_iff,ne_eq,fi]
   intro h
   have:=dh.closed (Q:=fun k=>k∈pre) (fun k hk=>by simpa using h2 k hk) (fun j hj k hk=>by simpa using h5 j hj k hk) h
   exact h3 _ this rfl
  rw[wR,ax (by simp),e]
 | 0,pre,y :: ys,hd,h1,h2,h3,h5,hm=>by
  have:=vQ s.length _ hd fun k hk=>(h1 k hk).1
  rw[List.length_append,List.length_cons] at this
  omega
 | m+1,pre,y :: ys,hd,h1,h2,h3,h5,hm=>by
  have hn:=aX hs
  have hl:=vQ s.length _ hd fun k hk=>(h1 k hk).1
  rw[List.length_append,List.length_cons] at hl
  obtain⟨hy,hr⟩:=h1 y (by simp)
  have hg:List.getD ((pre++y :: ys).map (au s)) (Int.toNat (pre.length:Int)) am.dflt=au s y:=by
   rw[List.getD_eq_getElem?_getD]
   simp
  have hlt:(pre.length:Int) < (((pre++y :: ys).map (au s)).length:Int):=by
   simp only[List.length_map,List.length_append,List.length_cons]
   omega
  have hw:IntKind.i64.wrap ((pre.length:Int)+1)=((pre++[y]).length:Int):=by
   rw[kH (by omega) (by omega)]
   simp
  rw[wR,aF hlt,bD (nn _) hlt,hg]
  show(if bv am (au s y) (au s a)=true then _ else _)=_
  by_cases e:y=a
  ·subst e
   rw[if_pos (by rw[mS]),fi.2 hr]
  ·have e' : ¬au s y=au s a:=fun k=>e (rL (bP hs) hy ha k)
   have hil:(bk s y).length≤s.length:=uF s (ii s y)
   rw[if_neg (by rw[mS]; exact e'),bD (nn _) hlt,NI hs hy,Option.bind_some]
   have hin:=IK hs (i:=(pre.length:Int)) (r:=au s a) (more:=bk s y) (fun k hk=>ij hk) (by omega) (bk s y) [] (pre++y :: ys) rfl (fun k hk=>(h1 k hk).1) (by simp only[List.length_append,List.length_cons]; omega)
   refine hin.trans ?_
   obtain⟨⟨ex,x1⟩,x2,x3⟩:=IJ (bk s y) (pre++y :: ys) hd
   have x4:vR (pre++y :: ys) (bk s y)=(pre++[y])++(ys++ex):=by rw[x1]; simp
   rw[x4] at x2 x3
   rw[x4,hw]
   refine NL ha m (pre++[y]) (ys++ex) x2 (fun k hk => ?_) (fun k hk=>(x3 k).2 (.inl (h2 k hk))) (fun k hk => ?_) (fun k hk j hj => ?_) (by simp only[List.length_append,List.length_singleton]; omega)
   ·rcases(x3 k).1 hk with hk | hk
    ·exact h1 k hk
    ·exact⟨ij hk,.more hr hk⟩
   ·rcases List.mem_append.1 hk with hk | hk
    ·exact h3 k hk
    ·rw[List.mem_singleton.1 hk]
     exact e
   ·rcases List.mem_append.1 hk with hk | hk
    ·exact(x3 j).2 (.inl (h5 k hk j hj))
    ·rw[List.mem_singleton.1 hk] at hj
     exact(x3 j).2 (.inr hj)
theorem UI (i:Nat):(bk s i).Nodup:=by
 unfold bk qK
 exact List.Pairwise.filter _ List.nodup_range
theorem So {a:Nat} (ha:a < s.length):ww s (au s a)=some ((pf s a,()),()):=by
 rw[Mv,NI hs ha,Option.bind_some]
 refine NL hs ha s.length [] (bk s a) (UI hs a) (fun k hk => ?_) (fun k hk=>by simpa using hk) (fun k hk=>by cases hk) (fun k hk=>by cases hk) (by omega)
 have hk:k∈bk s a:=by simpa using hk
 exact⟨ij hk,.one hk⟩
end
theorem et (s:List ae) (F:Nat→ab):(aB s F).length=s.length:=by
 unfold aB
 rw[List.length_map,List.length_range]
theorem vS {s:List ae} {F:Nat→ab} {i:Nat} (h:i < s.length):(aB s F)[i]? = some (au s i,F i,()):=by
 unfold aB
 rw[List.getElem?_map,List.getElem?_range h]
 rfl
theorem Ke {s:List ae} {F:Nat→ab} {i:Nat} (h:i < s.length) (d:ac):(aB s F).getD i d=(au s i,F i,()):=by
 rw[List.getD_eq_getElem?_getD,vS h]
 rfl
theorem tf {s:List ae} {F G:Nat→ab} (h : ∀ k,k < s.length→F k=G k):aB s F=aB s G:=by
 unfold aB
 refine List.map_congr_left fun k hk => ?_
 rw[h k (List.mem_range.1 hk)]
def Bh (F:Nat→ab) (i:Nat) (v:ab):Nat→ab:=fun k=>if k=i then v else F k
theorem Ww {s:List ae} {F:Nat→ab} {i:Nat} (v:ab) (h:i < s.length):(aB s F).set i (au s i,v,())=aB s (Bh F i v):=by
 apply List.ext_getElem?
 intro k
 rw[List.getElem?_set,et]
 by_cases e:i=k
 ·subst e
  rw[if_pos rfl,if_pos h,vS h]
  unfold Bh
  rw[if_pos rfl]
 ·rw[if_neg e]
  by_cases hk:k < s.length
  ·rw[vS hk,vS hk]
   unfold Bh
   rw[if_neg (fun x=>e x.symm)]
  ·rw[List.getElem?_eq_none (by rw[et]; omega),List.getElem?_eq_none (by rw[et]; omega)]
theorem FC {β:Type} {s:List ae} {F:Nat→ab} {i:Nat} (v:ab) (h:i < s.length) (k:List ac→β):tj af.dflt (aB s F) (i:Int) (fun e=>(e.1,v,())) k=k (aB s (Bh F i v)):=by
 unfold tj
 rw[Int.toNat_natCast,Ke h,Ww v h]
theorem EI (s:List ae) (F:Nat→ab):(aB s F).map (·.1)=s.map (·.1):=by
 have key : ∀ t:List ae,(List.range s.length).map (fun i=>s.getD i ap.dflt)=t→(aB s F).map (·.1)=t.map (·.1):=by
  rintro _ rfl
  unfold aB
  rw[List.map_map,List.map_map]
  rfl
 exact key s (xi s _)
theorem jR {s:List ae} {F:Nat→ab} (hs:aW s=true) (hF : ∀ k,k < s.length→ao (F k)=true):fU (aB s F)=true:=by
 have h1:=aX hs
 have h2:=bP hs
 have h3:=(j9.1 hs).2.1
 unfold fU
 rw[Bool.and_eq_true,Bool.and_eq_true,decide_eq_true_eq,List.all_eq_true,et,EI]
 refine⟨by omega,fun c hc => ?_,Ns ?_ (fun a e=>by cases e)⟩
 ·unfold aB at hc
  obtain⟨k,hk,rfl⟩:=List.mem_map.1 hc
  have hk:=List.mem_range.1 hk
  rw[Bool.and_eq_true]
  exact⟨(h3 _ (hY hk)).1,hF k hk⟩
 ·exact List.Pairwise.map _ (fun a b h=>h) h2
theorem UJ (w:ag):ao (bb w).1=true:=by
 cases h:(bb w).2 with
 | true=>exact(oZ h).1
 | false =>
  rw[M1 h]
  exact ML
theorem Kf {f:List aa} {l:List ac} (h1:eH f=true) (h2:fU l=true):ao (gh f l)=true:=by
 have hs:=vJ h1
 have hll:l.length≤120:=by
  unfold fU at h2
  simp only[Bool.and_eq_true,decide_eq_true_eq] at h2
  omega
 have hv:=iw h2
 have hl:=hs.1
 obtain⟨_,_,e3⟩:=Fq (f:=f) (l:=l) (by omega) (fun c hc=>Nat.le_trans (dj (hv c hc)) (by decide)) (by omega) hs.2.1 hs.2.2 h1 h2
 unfold gh
 dsimp only
 split
 ·decide
 ·exact e3
theorem Hz {α β:Type} {xs:List α} {i:Int} {k:Option β} (h : ¬(0≤i∧i < (xs.length:Int))):inb xs i k=none:=by
 unfold inb
 by_cases h0:0≤i
 ·rw[if_pos h0,if_neg fun h1=>h ⟨h0,h1⟩]
 ·rw[if_neg h0]
theorem UK (g:List ae×(List (List aa)×(List (List Int)×Unit))) : ∀(n:Nat) (i:Int) (done:List Bool) (out:List ac),done.count false≤n→cM i g.1 g.2.1 g.2.2.1 done out=bz i g done out:=by
 intro n
 induction n with
 | zero =>
  intro i done out hc
  rw[gV,cg]
  by_cases hin:0≤i∧i < (done.length:Int)
  ·simp only[bD hin.1 hin.2]
   by_cases hd:List.getD done i.toNat false=true
   ·rw[if_pos hd,if_pos hd]
   ·have:=rK done i.toNat (by omega) (by simpa using hd)
    omega
  ·rw[Hz hin,Hz hin]
 | succ n ih =>
  intro i done out hc
  rw[gV,cg]
  by_cases hin:0≤i∧i < (done.length:Int)
  ·simp only[bD hin.1 hin.2]
   by_cases hd:List.getD done i.toNat false=true
   ·rw[if_pos hd,if_pos hd]
   ·have hcs:=rK done i.toNat (by omega) (by simpa using hd)
    have key : ∀ y5:List Int,eC i y5 (y5.length:Int) 0 g.1 g.2.1 g.2.2.1 (done.set i.toNat true) out=cf i y5 (y5.length:Int) 0 g (done.set i.toNat true) out:=by
     intro y5
     rw[lS,gb]
     have k2 : ∀ y,cM y g.1 g.2.1 g.2.2.1 (done.set i.toNat true) out=bz y g (done.set i.toNat true) out:=fun y=>ih y _ out (by omega)
     simp only[k2]
    simp only[key]
  ·rw[Hz hin,Hz hin]
theorem XT {x0:Int} {x1:List Int} {x2 x3:Int} {g:List ae×(List (List aa)×(List (List Int)×Unit))} {done:List Bool} {out:List ac}:cf x0 x1 x2 x3 g done out=bR x0 x1 x2 x3 g done out:=by
 rw[gb,dK]
section
variable {s:List ae} (hs:aW s=true) {told:Nat→Bool} {given:Nat→ab}
include hs
theorem cj (i:Nat):(bS s i).size≤9223372036854775807:=by
 by_cases h:i < s.length
 ·exact Nat.le_trans (mT hs _ (hY h)) (by decide)
 ·unfold bS
  rw[List.getD_eq_getElem?_getD,List.getElem?_eq_none (by omega)]
  decide
structure FD (s:List ae) (told:Nat→Bool) (given:Nat→ab) (P:Nat→Prop) (done:List Bool) (F:Nat→ab):Prop where
 len:done.length=s.length
 val : ∀ k,k < s.length→done.getD k false=true→P k∨F k=dd s told given k
 ok : ∀ k,k < s.length→ao (F k)=true
 told : ∀ k,k < s.length→told k=true→done.getD k false=true
structure AM (s:List ae) (done done':List Bool):Prop where
 cnt:done'.count false≤done.count false
 mono : ∀ k,done.getD k false=true→done'.getD k false=true
omit hs in
theorem AM.trans {s:List ae} {a b c:List Bool} (h:AM s a b) (k:AM s b c):AM s a c:=⟨Nat.le_trans k.cnt h.cnt,fun j hj=>k.mono j (h.mono j hj)⟩
def YS (s:List ae) (told:Nat→Bool) (given:Nat→ab) (n:Nat):Prop := ∀(i:Nat) (P:Nat→Prop) (done:List Bool) (F:Nat→ab),i < s.length→FD s told given P done F→(∀ p,P p → ¬dh (bk s) p p∧dh (bk s) p i)→done.count false≤n →
 ∃ done' F',bz (i:Int) (gr s) done (aB s F)=some ((()),(done',gr s,aB s F',()))∧FD s told given P done' F'∧AM s done done'∧done'.getD i false=true
theorem Wx {f:List aa} {F:Nat→ab} {i:Nat} (hf:bI (bS s i)=some f) (ho : ∀ k,k < s.length→ao (F k)=true) (h : ∀ k∈bk s i,F k=dd s told given k) (ht:told i=false) (hr : ¬dh (bk s) i i):tY f (aB s F)=some ((dd s told given i,()),()):=by
 have hok:=j8 hf (cj hs i)
 have hsm:=vJ hok
 have hl:=hsm.1
 have hn:=aX hs
 have hv:=jR hs ho
 have e:gh f (aB s F)=dd s told given i:=by
  rw[uq (cj hs i) hf h,lN (cj hs) i,if_neg (by simp[ht]),hf]
  simp only[if_neg hr]
 rw[MW (by rw[et]; omega) (fun c hc=>Nat.le_trans (dj (iw hv c hc)) (by decide)) (by omega) hsm.2.1 hsm.2.2 hok hv,e]
theorem Kg {n:Nat} (R:YS s told given n) {i:Nat} (hi:i < s.length) {f:List aa} (hf:bI (bS s i)=some f) (hr : ¬dh (bk s) i i) (ht:told i=false) {P:Nat→Prop} (hP : ∀ p,P p → ¬dh (bk s) p p∧dh (bk s) p i) :
  ∀(ys pre:List Nat) (done:List Bool) (F:Nat→ab),bk s i=pre++ys→FD s told given (fun k=>P k∨k=i) done F→done.count false≤n→(∀ k∈pre,done.getD k false=true)→done.getD i false=true →
  ∃ done' F',bR (i:Int) ((bk s i).map fun k:Nat=>(k:Int)) ((bk s i).length:Int) (pre.length:Int) (gr s) done (aB s F)=some ((()),(done',gr s,aB s F',()))∧FD s told given P done' F'∧AM s done done'∧done'.getD i false=true
 | [],pre,done,F,h,hI,hc,hp,hdi=>by
  have hpre:bk s i=pre:=by rw[h]; simp
  have hval : ∀ k∈bk s i,F k=dd s told given k:=by
   intro k hk
   have hk':k∈pre:=hpre ▸ hk
   rcases hI.val k (ij hk) (hp k hk') with(e | e) | e
   ·exact absurd (dh.more (hP k e).2 hk) (hP k e).1
   ·rw[e] at hk
    exact absurd (dh.one hk) hr
   ·exact e
  have hev:=Wx hs hf hI.ok hval ht hr
  have hv:ao (dd s told given i)=true:=by
   have:=Kf (j8 hf (cj hs i)) (jR hs hI.ok)
   rw[uq (cj hs i) hf hval] at this
   rw[lN (cj hs) i,if_neg (by simp[ht]),hf]
   simp only[if_neg hr]
   exact this
  refine⟨done,Bh F i (dd s told given i),?_,⟨hI.len,fun k hk hd => ?_,fun k hk => ?_,hI.told⟩,⟨Nat.le_refl _,fun _ h=>h⟩,hdi⟩
  ·rw[dK,ax (by rw[hpre]; omega)]
   show(ix (gF s) (i:Int) ([]:(List aa)) fun y2=>((tY y2 (aB s F)).bind fun z2=>(inb (aB s F) (i:Int) (tj (af.dflt) (aB s F) (i:Int) (fun e=>(e.1,z2.1.1,())) fun w3=>(some ((()),(done,gr s,w3,())))))))=_
   rw[jQ (Sm hi),hf]
   show((tY f (aB s F)).bind fun z2=>_)=_
   rw[hev,Option.bind_some,bD (nn _) (by rw[et]; omega),FC _ hi]
  ·unfold Bh
   by_cases e:k=i
   ·rw[if_pos e,e]
    exact .inr rfl
   ·rw[if_neg e]
    rcases hI.val k hk hd with(h1 | h1) | h1
    ·exact .inl h1
    ·exact absurd h1 e
    ·exact .inr h1
  ·unfold Bh
   by_cases e:k=i
   ·rw[if_pos e]
    exact hv
   ·rw[if_neg e]
    exact hI.ok k hk
 | y :: ys,pre,done,F,h,hI,hc,hp,hdi=>by
  have hy:y∈bk s i:=by rw[h]; simp
  have hyl:=ij hy
  have hil:(bk s i).length≤s.length:=uF s (ii s i)
  have hn:=aX hs
  have hlt:((pre.length:Nat):Int) < ((bk s i).length:Int):=bH h
  have hw:IntKind.i64.wrap ((pre.length:Int)+1)=((pre++[y]).length:Int):=aO h (by omega)
  have hg:((bk s i).map fun k:Nat=>(k:Int))[pre.length]? = some (y:Int):=by
   rw[h]
   simp
  obtain⟨done1,F1,e1,I1,N1,d1⟩:=R y (fun k=>P k∨k=i) done F hyl hI (fun p hp'=>by
   rcases hp' with hp' | hp'
   ·exact⟨(hP p hp').1,.more (hP p hp').2 hy⟩
   ·rw[hp']
    exact⟨hr,.one hy⟩) hc
  obtain⟨done2,F2,e2,I2,N2,d2⟩:=Kg R hi hf hr ht hP ys (pre++[y]) done1 F1 (av h) I1 (Nat.le_trans N1.cnt hc) (fun k hk=>by
   rcases List.mem_append.1 hk with hk | hk
   ·exact N1.mono k (hp k hk)
   ·rw[List.mem_singleton.1 hk]
    exact d1) (N1.mono i hdi)
  refine⟨done2,F2,?_,I2,N1.trans N2,d2⟩
  rw[dK,aF hlt,jQ hg,e1,Option.bind_some,hw]
  exact e2
theorem Wy : ∀ n:Nat,YS s told given n:=by
 intro n
 induction n with
 | zero =>
  intro i P done F hi hI hP hc
  by_cases hd:done.getD i false=true
  ·refine⟨done,F,?_,hI,⟨Nat.le_refl _,fun _ h=>h⟩,hd⟩
   rw[cg,bD (nn _) (by rw[hI.len]; omega),Int.toNat_natCast,if_pos hd]
  ·have:=rK done i (by rw[hI.len]; exact hi) (by simpa using hd)
   omega
 | succ n R =>
  intro i P done F hi hI hP hc
  by_cases hd:done.getD i false=true
  ·refine⟨done,F,?_,hI,⟨Nat.le_refl _,fun _ h=>h⟩,hd⟩
   rw[cg,bD (nn _) (by rw[hI.len]; omega),Int.toNat_natCast,if_pos hd]
  ·have hil:i < done.length:=by rw[hI.len]; exact hi
   have hd':done.getD i false=false:=by simpa using hd
   have hcs:=rK done i hil hd'
   have ht:told i=false:=by
    rw[Bool.eq_false_iff]
    intro h
    exact hd (hI.told i hi h)
   have hset:(done.set i true).getD i false=true:=by rw[mU _ _ _ hil,if_pos rfl]
   have hnext:AM s done (done.set i true):=⟨by omega,fun k hk=>by
    rw[mU _ _ _ hil]
    split
    ·rfl
    ·exact hk⟩
   have hstep : ∀ v,ao v=true→v=dd s told given i→FD s told given P (done.set i true) (Bh F i v):=by
    intro v hv ev
    refine⟨by rw[List.length_set]; exact hI.len,fun k hk hdk => ?_,fun k hk => ?_,fun k hk htk=>hnext.mono k (hI.told k hk htk)⟩
    ·unfold Bh
     rw[mU _ _ _ hil] at hdk
     by_cases e:k=i
     ·rw[if_pos e,e]
      exact .inr ev
     ·rw[if_neg e] at hdk ⊢
      exact hI.val k hk hdk
    ·unfold Bh
     by_cases e:k=i
     ·rw[if_pos e]
      exact hv
     ·rw[if_neg e]
      exact hI.ok k hk
   have hve:=lN (told:=told) (given:=given) (cj hs) i
   rw[if_neg (by simp[ht])] at hve
   have heq:bz (i:Int) (gr s) done (aB s F)=ix (gF s) (i:Int) ([]:(List aa)) fun y1=>(if((List.length y1:Int) == 0)=true then(ix s (i:Int) (ap.dflt) fun y2=>((dZ y2.2.1).bind fun z1=>(inb (aB s F) (i:Int) (tj (af.dflt) (aB s F) (i:Int) (fun e=>(e.1,z1.1.1,())) fun w3=>(some ((()),((List.set done i true),gr s,w3,()))))))) else((jr (gr s) (i:Int)).bind fun z2=>(if z2.1.1=true then((fI 5).bind fun z3=>(inb (aB s F) (i:Int) (tj (af.dflt) (aB s F) (i:Int) (fun e=>(e.1,z3.1.1,())) fun w4=>(some ((()),((List.set done i true),gr s,w4,())))))) else(ix (gL s) (i:Int) ([]:(List Int)) fun y5=>(cf (i:Int) y5 (List.length y5:Int) 0 (gr s) (List.set done i true) (aB s F)))))):=by
    rw[cg,bD (nn _) (by omega),Int.toNat_natCast,hd',if_neg (by decide),bD (nn _) (by omega)]
    rfl
   rw[heq,jQ (Sm hi)]
   cases hf:bI (bS s i) with
   | none =>
    rw[hf] at hve
    have hsz:=cj hs i
    have hsz2:(bS s i).size≤200:=mT hs _ (hY hi)
    have hrv:dZ (bS s i)=some (((bb (lb (bS s i))).1,(bb (lb (bS s i))).2,()),()):=by
     have:=lz (w:=lb (bS s i)) (by rw[jy]; omega)
     rw[eO] at this
     exact this
    refine⟨done.set i true,Bh F i (bb (lb (bS s i))).1,?_,hstep _ (UJ _) hve.symm,hnext,hset⟩
    dsimp only[Option.getD_none]
    rw[if_pos (by rfl),jQ (nE (d:=ap.dflt) hi)]
    show((dZ (bS s i)).bind fun z1=>_)=_
    rw[hrv,Option.bind_some,bD (nn _) (by rw[et]; omega),FC _ hi]
   | some f =>
    rw[hf] at hve
    have hok:=j8 hf (cj hs i)
    have hfl:1≤f.length:=by
     have hb:cQ (f.length:Int) 1 60=true:=by
      unfold eH at hok
      simp only[Bool.and_eq_true] at hok
      exact hok.1
     have:=bu.1 hb
     omega
    dsimp only[Option.getD_some]
    rw[if_neg (by rw[beq_iff_eq]; omega),Kd (aX hs) hi,Option.bind_some]
    dsimp only
    by_cases hr:dh (bk s) i i
    ·simp only[if_pos hr] at hve
     refine⟨done.set i true,Bh F i (vE 5),?_,hstep _ (oF (by decide) (by decide)) hve.symm,hnext,hset⟩
     rw[fi.2 hr,if_pos rfl,gc,Option.bind_some,bD (nn _) (by rw[et]; omega),FC _ hi]
    ·have hrb:pf s i=false:=by
      rw[Bool.eq_false_iff,ne_eq,fi]
      exact hr
     have hI':FD s told given (fun k=>P k∨k=i) (done.set i true) F:=by
      refine⟨by rw[List.length_set]; exact hI.len,fun k hk hdk => ?_,hI.ok,fun k hk htk=>hnext.mono k (hI.told k hk htk)⟩
      rw[mU _ _ _ hil] at hdk
      by_cases e:k=i
      ·exact .inl (.inr e)
      ·rw[if_neg e] at hdk
       rcases hI.val k hk hdk with h1 | h1
       ·exact .inl (.inl h1)
       ·exact .inr h1
     obtain⟨done',F',e1,I1,N1,d1⟩:=Kg hs R hi hf hr ht hP (bk s i) [] (done.set i true) F rfl hI' (by omega) (fun k hk=>by cases hk) hset
     refine⟨done',F',?_,I1,hnext.trans N1,d1⟩
     rw[hrb,if_neg (by decide),jQ (K3 hi),XT,List.length_map]
     exact e1
theorem NM : ∀(m i:Nat) (done:List Bool) (F:Nat→ab),i+m=s.length→FD s told given (fun _=>False) done F→(∀ k,k < i→done.getD k false=true) →
  gK (s.length:Int) (i:Int) (aB s F) (gr s) done=some ((aB s (dd s told given),()),())
 | 0,i,done,F,h,hI,hd=>by
  rw[kE,ax (by omega)]
  rw[tf fun k hk=>(hI.val k hk (hd k (by omega))).resolve_left id]
 | m+1,i,done,F,h,hI,hd=>by
  have hn:=aX hs
  obtain⟨done',F',e1,I1,N1,d1⟩:=Wy hs (told:=told) (given:=given) (done.count false) i (fun _=>False) done F (by omega) hI (fun p hp=>hp.elim) (Nat.le_refl _)
  rw[kE,aF (by omega),e1,Option.bind_some,kH (by omega) (by omega)]
  have:=NM m (i+1) done' F' (by omega) I1 (fun k hk=>by
   by_cases e:k=i
   ·rw[e]
    exact d1
   ·exact N1.mono k (hd k (by omega)))
  exact this
theorem Sp {done:List Bool} {F:Nat→ab}:kk (s.length:Int) 0 (aB s F) s (gF s) (gL s) done=gK (s.length:Int) 0 (aB s F) (gr s) done:=by
 rw[Ah,kE]
 have:=UK (gr s) (done.count false) 0 done (aB s F) (Nat.le_refl _)
 rw[←this]
 rfl
theorem OW {l:List Bool} (h:l.length≤1000000):iZ l=some ((l,()),()):=by
 rw[sS]
 unfold fm
 simp only[kP?,dite_true,Option.bind_some]
 exact if_pos (by omega)
theorem NN {gv:List ab} (hg:gv.length=s.length) {td:List Bool} : ∀(ys pre:List ae) (o:List ac),s=pre++ys→o.length=ys.length →
  ja gv s (s.length:Int) (pre.length:Int) s (gF s) (gL s) td (((List.range pre.length).map fun k=>(au s k,gv.getD k v0,()))++o)=kk (s.length:Int) 0 (aB s fun k=>gv.getD k v0) s (gF s) (gL s) td
 | [],pre,o,h,ho=>by
  have e:pre=s:=by rw[h]; simp
  rw[qV,ax (bw h),List.eq_nil_of_length_eq_zero ho,List.append_nil,List.length_map,List.length_range,e]
  rfl
 | y :: ys,pre,o,h,ho=>by
  have hn:=aX hs
  have hlen:s.length=pre.length+(ys.length+1):=by rw[h]; simp
  cases o with
  | nil=>cases ho
  | cons z o =>
   have e0:((List.range pre.length).map fun k=>(au s k,gv.getD k v0,())).length=pre.length:=by rw[List.length_map,List.length_range]
   have hi:pre.length < gv.length:=by omega
   rw[qV,aF (bH h),bC h,jQ (nE (d:=v0) hi),bD (nn _) (by simp only[List.length_append,List.length_cons,List.length_map,List.length_range]; omega),aO h (by omega)]
   have ih:=NN hg (td:=td) ys (pre++[y]) o (av h) (by simpa using ho)
   have e1:List.set (((List.range pre.length).map fun k=>(au s k,gv.getD k v0,()))++z :: o) (Int.toNat (pre.length:Int)) (y.1,gv.getD (Int.toNat (pre.length:Int)) v0,())=((List.range (pre++[y]).length).map fun k=>(au s k,gv.getD k v0,()))++o:=by
    have:=LJ (l:=(List.range pre.length).map fun k=>((au s k,gv.getD k v0,()):ac)) (r:=o) (y:=z) (z:=(y.1,gv.getD (Int.toNat (pre.length:Int)) v0,()))
    rw[e0] at this
    rw[this,List.length_append,List.length_singleton,List.range_succ,List.map_append,List.append_assoc,List.map_singleton,Hx h]
    rfl
   refine Eq.trans ?_ ih
   exact congrArg _ e1
theorem EJ {td:List Bool} {gv:List ab} (h1:td.length=s.length) (h2:gv.length=s.length) (h3 : ∀ v∈gv,ao v=true) (ht : ∀ k,k < s.length→told k=td.getD k false) (hg : ∀ k,k < s.length→given k=gv.getD k v0):lj (gr s) td gv=some ((aB s (dd s told given),()),()):=by
 have hn:=aX hs
 rw[Fb,OW hs (by omega),Option.bind_some]
 show(D1 (s.length:Int) 48 (af.dflt) fun y1=>(ja gv s (s.length:Int) 0 s (gF s) (gL s) td y1))=_
 rw[B5 (by omega)]
 have:=NN hs h2 (td:=td) s [] (List.replicate s.length af.dflt) rfl (by simp)
 refine Eq.trans this ?_
 rw[Sp hs]
 refine NM hs s.length 0 td _ (by omega) ⟨h1,fun k hk hd => .inr ?_,fun k hk => ?_,fun k hk h=>by rw[←ht k hk]; exact h⟩ (fun k hk=>by omega)
 ·rw[lN (cj hs) k,if_pos (by rw[ht k hk]; exact hd),hg k hk]
 ·exact h3 _ (hY (by omega))
end
end Go.Proofs.YtnodjiikdgmeaaaGreatDoor.Abs
