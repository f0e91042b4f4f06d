/- Plain laws: drawn bytes: what the drawing functions give has small sizes, and they always give something. -/
import Derived.Test.YtnodjiikdgmeaaaGreatDoorZM7
import Derived.Test.YtnodjiikdgmeaaaGreatDoorZM5
set_option linter.unusedVariables false
set_option linter.unusedSimpArgs false
set_option linter.unusedSectionVars false
namespace Go.Proofs.YtnodjiikdgmeaaaGreatDoor.Abs
open Go
def Ok {α:Type} (P:α→Prop) (o:Option α):Prop := ∃ a,o=some a∧P a
theorem Ok.one {α:Type} {P:α→Prop} {a:α} (h:P a):Ok P (some a):=⟨a,rfl,h⟩
theorem Ok.bnd {α β:Type} {P:α→Prop} {Q:β→Prop} {o:Option α} {f:α→Option β} (h:Ok P o) (k : ∀ a,P a→Ok Q (f a)):Ok Q (o.bind f):=by
 obtain⟨a,e,p⟩:=h
 rw[e]
 exact k a p
theorem Ok.ite {α:Type} {c:Prop} [Decidable c] {Q:α→Prop} {a b:Option α} (h:c→Ok Q a) (k : ¬c→Ok Q b):Ok Q (if c then a else b):=by
 by_cases e:c
 ·rw[if_pos e]; exact h e
 ·rw[if_neg e]; exact k e
theorem Ok.inb {α β:Type} {Q:β→Prop} {xs:List α} {i:Int} {k:Option β} (h:0≤i∧i < (xs.length:Int)) (hk:Ok Q k):Ok Q (inb xs i k):=by
 rw[bu h.1 h.2]; exact hk
theorem Ok.cats {β:Type} {Q:β→Prop} {a b:ByteArray} {f:ByteArray→Option β} (h:a.size+b.size≤9223372036854775807) (hk:Ok Q (f (a++b))):Ok Q (cats a b f):=by
 rw[ip h]; exact hk
theorem Ok.nz {β:Type} {Q:β→Prop} {b:Int} {k:Option β} (h:b≠0) (hk:Ok Q k):Ok Q (nz b k):=by
 rw[E0 h]; exact hk
theorem Ok.app {α β:Type} {Q:β→Prop} {a b:List α} {n:Nat} {f:List α→Option β} (h:(a.length+b.length)*n≤140737488355328) (hk:Ok Q (f (a++b))):Ok Q (app a b n f):=by
 rw[bv h]; exact hk
theorem Ok.mono {α:Type} {P Q:α→Prop} {o:Option α} (h:Ok P o) (k : ∀ a,P a→Q a):Ok Q o:=by
 obtain⟨a,e,p⟩:=h
 exact⟨a,e,k a p⟩
theorem Sb {l:List ByteArray} {n:Nat} (h : ∀ x∈l,x.size≤n) (i:Nat) (d:ByteArray) (hd:d.size≤n):(l.getD i d).size≤n:=by
 rw[List.getD_eq_getElem?_getD]
 by_cases e:i < l.length
 ·rw[List.getElem?_eq_getElem e]; exact h _ (List.getElem_mem e)
 ·rw[List.getElem?_eq_none (by omega)]; exact hd
structure V2 (c:List Int):Prop where
 len:c.length≤1048576
 all : ∀ b∈c,0≤b∧b≤255
section
variable {c:List Int} (hc:V2 c)
include hc
end
theorem Ok.inbL {β:Type} {Q:β→Prop} {l:List ByteArray} {i n:Int} {k:Option β} (d:ByteArray) (h0:0≤i) (h1:i < n) (hl:n=(l.length:Int)) (hs : ∀ x∈l,x.size≤20) (hd:d.size≤20) (hk:(l.getD i.toNat d).size≤20→Ok Q k):Ok Q (Abs.inb l i k) :=
 Ok.inb ⟨h0,by omega⟩ (hk (Sb hs _ _ hd))
section
end
def qX (x:aa):Bool:=decide (x.1=2) || decide (x.1=3)
def cy (f:List aa):List aJ:=(f.filter qX).map cT
def jA (ar:List aJ) (l:List ac):List ac:=l.filter fun c=>ar.any fun a=>dI a c.1
theorem TW (r:al):dI (r,r,()) r=true:=by
 unfold dI
 rw[Bool.and_eq_true,bA,bA]
 exact⟨⟨Int.le_refl _,Int.le_refl _⟩,Int.le_refl _,Int.le_refl _⟩
theorem Lz {ar:List aJ} {r:al} (h : ∃ a∈ar,dI a r=true) : ∀ l:List ac,dN (jA ar l) r=dN l r
 | []=>rfl
 | c :: l=>by
  have ih:=Lz h l
  unfold jA at ih ⊢
  rw[List.filter_cons]
  by_cases hc:(ar.any fun a=>dI a c.1)=true
  ·rw[if_pos hc]
   unfold dN
   rw[ih]
  ·rw[if_neg hc,ih]
   have:c.1≠r:=by
    rintro rfl
    exact hc (List.any_eq_true.2 h)
   conv=>rhs; unfold dN
   rw[if_neg this]
theorem TX {ar:List aJ} {a:aJ} (h:a∈ar) (l:List ac):g9 (jA ar l) a=g9 l a:=by
 unfold g9 jA
 rw[List.filter_filter]
 congr 1
 refine List.filter_congr fun c _ => ?_
 cases hc:dI a c.1 with
 | false=>rfl
 | true =>
  rw[Bool.true_and]
  exact List.any_eq_true.2 ⟨a,h,hc⟩
section
variable {f:List aa} {l:List ac}
theorem TY {k:Int} (h0:0≤k) (h1:k < f.length):fk f k∈f:=by
 unfold fk
 rw[List.getD_eq_getElem?_getD,List.getElem?_eq_getElem (by omega)]
 exact List.getElem_mem _
theorem Il {x:aa} (h:x∈f) (k:qX x=true):cT x∈cy f:=List.mem_map_of_mem (List.mem_filter.2 ⟨h,k⟩)
theorem LA {ev ev':Int→ab} : ∀ ks:List Int,(∀ k∈ks,0≤k∧k < f.length)→(∀ k∈ks,ev' k=ev k)→iM ev' f (jA (cy f) l) ks=iM ev f l ks
 | [],_,_=>rfl
 | k :: ks,hb,he=>by
  unfold iM
  rw[LA ks (fun j hj=>hb j (List.mem_cons_of_mem _ hj)) (fun j hj=>he j (List.mem_cons_of_mem _ hj)),he k List.mem_cons_self]
  by_cases h3:(fk f k).1=3
  ·have hb:=hb k List.mem_cons_self
   rw[if_pos h3,if_pos h3,TX (Il (TY hb.1 hb.2) (by unfold qX; rw[h3]; rfl))]
  ·rw[if_neg h3,if_neg h3]
theorem LB (A : ∀(i:Nat) (x:aa),f[i]? = some x→lK f i x) : ∀(n:Nat) (k:Int),0≤k→k < n→k < f.length→cD n f (jA (cy f) l) k=cD n f l k
 | 0,k,h0,h1,_=>by omega
 | n+1,k,h0,h1,h2=>by
  obtain⟨x,hx⟩ : ∃ y,f[k.toNat]? = some y:=⟨f[k.toNat]'(by omega),List.getElem?_eq_getElem _⟩
  have hst:=A _ _ hx
  have hnx:fk f k=x:=by
   unfold fk
   rw[List.getD_eq_getElem?_getD,hx]
   rfl
  have hm:x∈f:=List.mem_of_getElem? hx
  have hb : ∀ j∈x.2.2.2.2.2.1,0≤j∧j < f.length:=fun j hj=>by
   have:=hst.2 j hj
   omega
  have hk : ∀ j∈x.2.2.2.2.2.1,cD n f (jA (cy f) l) j=cD n f l j:=fun j hj=>by
   have:=hst.2 j hj
   exact LB A n j this.1 (by omega) (by omega)
  have h00:cD n f (jA (cy f) l) 0=cD n f l 0:=by
   cases n with
   | zero=>rfl
   | succ n=>exact LB A (n+1) 0 (by omega) (by omega) (by omega)
  have hkid : ∀ i:Nat,cD n f (jA (cy f) l) (x.2.2.2.2.2.1.getD i 0)=cD n f l (x.2.2.2.2.2.1.getD i 0):=fun i=>by
   rw[List.getD_eq_getElem?_getD]
   by_cases e:i < x.2.2.2.2.2.1.length
   ·rw[List.getElem?_eq_getElem e]
    exact hk _ (List.getElem_mem e)
   ·rw[List.getElem?_eq_none (by omega)]
    exact h00
  unfold cD
  simp only[hnx,hkid]
  have hargs:=LA (l:=l) (ev:=cD n f l) (ev':=cD n f (jA (cy f) l)) _ hb hk
  rw[hargs]
  by_cases k2:x.1=2
  ·rw[Lz ⟨_,Il hm (by unfold qX; rw[k2]; rfl),?_⟩]
   unfold cT
   rw[if_pos k2]
   exact TW _
  ·rw[if_neg k2,if_neg k2]
end
theorem LC : ∀ {l:List al} {o:Option al},(l.Pairwise fun a b=>fD a b=true)→(∀ a,o=some a → ∀ b∈l,fD a b=true)→py o l=true
 | [],o,_,_=>by cases o <;> rfl
 | b :: l,o,h,ho=>by
  have h':=List.pairwise_cons.1 h
  rw[Bc,LC (o:=some b) h'.2 (fun a e=>by cases e; exact h'.1),Bool.and_true]
  cases o with
  | none=>rfl
  | some a=>exact ho a rfl b List.mem_cons_self
theorem LD {f:List aa} {l:List ac} (h:fV f=true):iO f (jA (cy f) l)=iO f l:=by
 have hb:cw (f.length:Int) 1 60=true:=by
  unfold fV at h
  simp only[Bool.and_eq_true] at h
  exact h.1
 have:=bA.1 hb
 unfold iO
 rw[LB (mm h) f.length _ (by omega) (by omega) (by omega)]
def kU (d:ak):Bool:=d.all dE && decide (bm 0 d≤1000000000000000)
theorem Sc {d:ak} (hne:d≠[]) (h:d.length=1∨d.head? ≠ some 48):jy d=d.all dE:=by
 have hl:=List.length_pos_iff.2 hne
 unfold jy
 rw[decide_eq_true (show 1≤d.length by omega),Bool.and_true]
 rcases h with h | h
 ·rw[decide_eq_true h]; simp
 ·rw[decide_eq_false h]; simp
theorem Sd {d:ak} (hne:d≠[]) (h:d.length=1∨d.head? ≠ some 48):(cF d 16 && decide (bm 0 d≤1000000000000000))=kU d:=by
 unfold cF kU
 rw[Sc hne h]
 cases ha:d.all dE with
 | false=>simp
 | true =>
  simp only[Bool.true_and]
  by_cases hv:bm 0 d≤1000000000000000
  ·have hd:=(NU d (by rw[Sc hne h]; exact ha)).1
   have:=PP hv
   rw[hd] at this
   rw[decide_eq_true this]
   rfl
  ·rw[decide_eq_false hv,Bool.and_false]
theorem Wq {d:ak} (h:cF d 16=true):bm 0 d < 10000000000000000:=by
 unfold cF jy at h
 simp only[Bool.and_eq_true,decide_eq_true_eq] at h
 have:=B4 d 0 h.1.1.1
 have h2:10 ^ d.length≤10 ^ 16:=Nat.pow_le_pow_right (by decide) h.2
 omega
theorem V3 (n:Int):an (vN n)=cw n (-1000000000000000) 1000000000000000:=by
 unfold an vN
 simp
def uw (b:Bool) (n:Nat):Int:=if b=true then -(n:Int) else n
theorem LF {b:Bool} {n:Nat}:an (vN (uw b n))=decide (n≤1000000000000000):=by
 rw[V3]
 unfold uw cw
 rw[Bool.eq_iff_iff,decide_eq_true_eq,decide_eq_true_eq]
 cases b <;> simp <;> omega
theorem Se {d:ak} {b:Bool}:((cM (ba d) 16).bind fun z4=>(if b=true then(if z4.1.2.1=true then((dQ (1,(IntKind.i64.wrap (0 - z4.1.1)),(⟨#[]⟩:ByteArray),())).bind fun z5=>(some (((1,(IntKind.i64.wrap (0 - z4.1.1)),(⟨#[]⟩:ByteArray),()),z5.1.1,()),(())))) else(some (((1,(IntKind.i64.wrap (0 - z4.1.1)),(⟨#[]⟩:ByteArray),()),false,()),(())))) else(if z4.1.2.1=true then((dQ (1,z4.1.1,(⟨#[]⟩:ByteArray),())).bind fun z6=>(some (((1,z4.1.1,(⟨#[]⟩:ByteArray),()),z6.1.1,()),(())))) else(some (((1,z4.1.1,(⟨#[]⟩:ByteArray),()),false,()),(()))))))
  = (some ((vN (uw b (if cF d 16=true then bm 0 d else 0)),(cF d 16 && decide (bm 0 d≤1000000000000000)),()),()):Option ((ab×Bool×Unit)×Unit)):=by
 have e:=Bi d (m:=16) (by decide)
 have e:cM (ba d) 16=_:=e
 rw[e]
 simp only[Option.bind_some]
 cases hr:cF d 16 with
 | false=>cases b <;> rfl
 | true =>
  have hlt:=Wq hr
  simp only[if_true,Bool.true_and]
  cases b with
  | true =>
   simp only[if_true]
   rw[wr (by omega) (by omega)]
   have ev:((1,0 - ((bm 0 d:Nat):Int),(⟨#[]⟩:ByteArray),()):ab)=vN (uw true (bm 0 d)):=by
    unfold vN uw
    rw[if_pos rfl,show(0:Int) - ((bm 0 d:Nat):Int) = -((bm 0 d:Nat):Int) by omega]
   rw[ev,eP (by show eS.size≤_; decide),LF]
   rfl
  | false =>
   simp only[Bool.false_eq_true,if_false]
   have ev:((1,((bm 0 d:Nat):Int),(⟨#[]⟩:ByteArray),()):ab)=vN (uw false (bm 0 d)):=rfl
   rw[ev,eP (by show eS.size≤_; decide),LF]
   rfl
theorem P1 {b:Bool} : ∀(d:ak),d≠[]→d.length≤9223372036854775807 → ∃ v:ab,jt (ba d) b 0 0 (⟨#[]⟩:ByteArray)=some ((v,kU d,()),())∧(kU d=true→v=vN (uw b (bm 0 d)))
 | [],h,_=>absurd rfl h
 | c :: l,h,hl=>by
  have aM:(c :: l:ak).length=1∨(c :: l:ak).head? ≠ some 48 → ∃ v:ab,(some ((vN (uw b (if cF (c :: l) 16=true then bm 0 (c :: l) else 0)),(cF (c :: l) 16 && decide (bm 0 (c :: l)≤1000000000000000)),()),()):Option ((ab×Bool×Unit)×Unit))=some ((v,kU (c :: l),()),())∧(kU (c :: l)=true→v=vN (uw b (bm 0 (c :: l)))):=by
   intro hc
   rw[Sd h hc]
   refine⟨_,rfl,fun ho => ?_⟩
   rw[←Sd h hc,Bool.and_eq_true] at ho
   rw[if_pos ho.1]
  rw[Fl,aN]
  by_cases h1:1 < (c :: l:ak).length
  ·rw[az (by omega),rG,GJ c 48 (n:=48) rfl]
   by_cases h48:c=48
   ·subst h48
    rw[az rfl,show(1:Int)=((1:Nat):Int) from rfl,fN (by simp)]
    simp only[List.drop_succ_cons,List.drop_zero]
    have hne:l≠[]:=by
     rintro rfl
     simp at h1
    have hll:l.length≤9223372036854775807:=by rw[List.length_cons] at hl; omega
    obtain⟨v,e1,e2⟩:=P1 (b:=b) l hne hll
    have eo:kU (48 :: l)=kU l:=by
     unfold kU
     rfl
    rw[eo]
    exact⟨v,e1,e2⟩
   ·rw[aw h48,Se]
    exact aM (.inr (by simpa using h48))
  ·rw[aw (by omega),Se]
   exact aM (.inl (by simp only[List.length_cons] at h1 ⊢; omega))
def Sf (w:ak):Bool:=decide (w.head? = some 45)
def jb (w:ak):ak:=if w.head? = some 45 then w.drop 1 else w
def nh (w:ak):Bool:=decide (jb w≠[]) && kU (jb w)
def qu (w:ak):Int:=uw (Sf w) (bm 0 (jb w))
theorem LG {w:ak} (hw:w≠[]) (hl:w.length≤9223372036854775807) : ∃ v:ab,AJ (ba w)=some ((v,nh w,()),())∧(nh w=true→v=vN (qu w)):=by
 cases w with
 | nil=>exact absurd rfl hw
 | cons c l =>
  rw[Kp,aN,az (by simp),rG,GJ c 45 (n:=45) rfl]
  by_cases hc:c=45
  ·subst hc
   have hm:jb (45 :: l)=l:=rfl
   have hg:Sf (45 :: l)=true:=rfl
   have e0:(ByteArray.toList (ba l) == ByteArray.toList (⟨#[]⟩:ByteArray))=decide (l=[]):=dD (b:=[])
   rw[az rfl,show(1:Int)=((1:Nat):Int) from rfl,fN (by simp)]
   simp only[List.drop_succ_cons,List.drop_zero]
   rw[e0]
   unfold nh qu
   rw[hm,hg]
   by_cases hn:l=[]
   ·rw[az hn]
    subst hn
    exact⟨_,rfl,fun h=>by cases h⟩
   ·rw[aw hn]
    obtain⟨v,e1,e2⟩:=P1 (b:=true) l hn (by rw[List.length_cons] at hl; omega)
    refine⟨v,?_,fun h => ?_⟩
    ·simpa[hn] using e1
    ·rw[Bool.and_eq_true] at h
     exact e2 h.2
  ·have hm:jb (c :: l)=c :: l:=if_neg (by simpa using hc)
   have hg:Sf (c :: l)=false:=decide_eq_false (by simpa using hc)
   have e0:(ByteArray.toList (ba (c :: l)) == ByteArray.toList (⟨#[]⟩:ByteArray))=decide (c :: l=[]):=dD (b:=[])
   rw[aw hc,e0,aw (by simp)]
   unfold nh qu
   rw[hm,hg]
   obtain⟨v,e1,e2⟩:=P1 (b:=false) (c :: l) (by simp) hl
   refine⟨v,?_,fun h => ?_⟩
   ·simpa[hc] using e1
   ·rw[Bool.and_eq_true] at h
    exact e2 h.2
theorem V4:(fun c=>([48,49,50,51,52,53,54,55,56,57]:ak).contains c)=dE:=funext fun c=>DN (p:=fun c=>([48,49,50,51,52,53,54,55,56,57]:ak).contains c=dE c) (by decide +kernel) c
theorem FT {p:UInt8→Bool} : ∀ {l:ak} {x:UInt8} {t:ak},l.dropWhile p=x :: t→p x=false
 | c :: l,x,t,h=>by
  cases hc:p c with
  | true =>
   rw[List.dropWhile_cons_of_pos hc] at h
   exact FT h
  | false =>
   rw[List.dropWhile_cons_of_neg (by rw[hc]; decide)] at h
   cases h
   exact hc
theorem vH {p:UInt8→Bool} : ∀ {l:ak},l.dropWhile p=[]↔l.all p=true
 | []=>by simp
 | c :: l=>by
  cases hc:p c with
  | true=>rw[List.dropWhile_cons_of_pos hc,vH]; simp[hc]
  | false=>rw[List.dropWhile_cons_of_neg (by rw[hc]; decide)]; simp[hc]
theorem TZ (d:ak):(Lib.trimS d [48,49,50,51,52,53,54,55,56,57]=[])↔d.all dE=true:=by
 unfold Lib.trimS Lib.trimLeftS Lib.trimRightS
 rw[V4,vH]
 constructor
 ·intro h
  cases hr:d.reverse.dropWhile dE with
  | nil =>
   rw[vH] at hr
   simpa using hr
  | cons x t =>
   have hx:=FT hr
   rw[hr] at h
   simp only[List.all_reverse,List.all_cons,Bool.and_eq_true] at h
   rw[hx] at h
   cases h.1
 ·intro h
  have:d.reverse.dropWhile dE=[]:=vH.2 (by simpa using h)
  rw[this]
  rfl
theorem LH {w:ak} (hl:w.length≤1000000):AN (ba w)=some (((decide (jb w≠[]) && (jb w).all dE),()),()):=by
 have hp:lu (ba w) (⟨#[45]⟩:ByteArray)=some ((ba (jb w),()),()):=by
  rw[xk,sP,show(⟨#[45]⟩:ByteArray)=ba [45] from rfl,v8 _ _ (by omega)]
  simp only[Option.bind_some,DL]
  unfold jb
  by_cases h:w.head? = some 45
  ·obtain⟨t,rfl⟩:=jI h
   rw[az h,if_pos h,aN,fN (by simp)]
   rfl
  ·rw[aw h,if_neg h]
   rfl
 rw[Kv,hp]
 simp only[Option.bind_some]
 have e0 : ∀ x:ak,(ByteArray.toList (ba x) == ByteArray.toList (⟨#[]⟩:ByteArray))=decide (x=[]):=fun x=>dD (b:=[])
 have hm:(jb w).length≤w.length:=by
  unfold jb
  split <;> simp
 rw[e0]
 by_cases hn:jb w=[]
 ·simp[hn]
 ·have ht:tK (ba (jb w)) (⟨#[48,49,50,51,52,53,54,55,56,57]⟩:ByteArray)=some ((ba (Lib.trimS (jb w) [48,49,50,51,52,53,54,55,56,57]),()),()):=by
   rw[Ff]
   show(if tx (ba [48,49,50,51,52,53,54,55,56,57])=true∧(ba (jb w)).size≤9223372036854775807 then some (((⟨(Lib.trimS (lb (ba (jb w))) (lb (ba [48,49,50,51,52,53,54,55,56,57]))).toArray⟩:ByteArray),()),()) else none)=_
   rw[if_pos ⟨by decide +kernel,by rw[aN]; omega⟩,eu,eu]
  rw[ht]
  simp only[Option.bind_some,hn,decide_false,Bool.not_false,if_true,e0,ne_eq,not_false_eq_true,decide_true,Bool.true_and]
  congr 3
  rw[Bool.eq_iff_iff,decide_eq_true_eq]
  exact TZ _
theorem LI : ∀(l:ak) (a u:Nat),l.all dE=true→Lib.parseUintM 18446744073709551615 a l = .ok u→u=bm a l
 | [],a,u,_,h=>by
  cases h
  rfl
 | c :: l,a,u,h,hp=>by
  simp only[List.all_cons,Bool.and_eq_true] at h
  have hd:48≤c.toNat∧c.toNat≤57:=by simpa[dE] using h.1
  unfold Lib.parseUintM at hp
  rw[if_pos hd] at hp
  split at hp
  ·cases hp
  ·split at hp
   ·cases hp
   ·exact LI l _ u h.2 hp
theorem Im {w:ak} (hne:jb w≠[]) (hd:(jb w).all dE=true) (h:(bX w).2=true):(bX w).1=qu w:=by
 unfold bX at h ⊢
 cases hp:Lib.parseIntB 64 w with
 | range=>rw[hp] at h; cases h
 | ok v =>
  simp only
  cases w with
  | nil=>exact absurd rfl hne
  | cons c l =>
   unfold Lib.parseIntB at hp
   simp only at hp
   unfold qu
   by_cases hc:c=45
   ·subst hc
    have hm:jb (45 :: l)=l:=rfl
    have hg:Sf (45 :: l)=true:=rfl
    rw[hm] at hne hd
    have h45:(45:UInt8).toNat=45:=rfl
    rw[if_pos (.inr h45)] at hp
    unfold Lib.parseUintB at hp
    rw[if_neg hne] at hp
    cases hu:Lib.parseUintM (2 ^ 64 - 1) 0 l with
    | range=>rw[hu] at hp; cases hp
    | ok u =>
     rw[hu] at hp
     have:=LI l 0 u hd hu
     simp only at hp
     split at hp
     ·cases hp
     ·split at hp
      ·cases hp
      ·cases hp
       rw[hm,hg,this]
       rfl
    | _=>rw[hu] at hp; cases hp
   ·have hm:jb (c :: l)=c :: l:=if_neg (by simpa using hc)
    have hg:Sf (c :: l)=false:=decide_eq_false (by simpa using hc)
    rw[hm] at hd
    have hcd:48≤c.toNat∧c.toNat≤57:=by
     simp only[List.all_cons,Bool.and_eq_true] at hd
     simpa[dE] using hd.1
    rw[if_neg (by omega)] at hp
    unfold Lib.parseUintB at hp
    rw[if_neg (by simp)] at hp
    cases hu:Lib.parseUintM (2 ^ 64 - 1) 0 (c :: l) with
    | range=>rw[hu] at hp; cases hp
    | ok u =>
     rw[hu] at hp
     have:=LI (c :: l) 0 u hd hu
     simp only at hp
     split at hp
     ·cases hp
     ·split at hp
      ·cases hp
      ·rw[if_neg (by omega)] at hp
       cases hp
       rw[hm,hg,this]
       rfl
    | _=>rw[hu] at hp; cases hp
 | _=>rw[hp] at h; cases h
theorem MW {w:ak} (h:nh w=true):bX w=(qu w,true):=by
 unfold nh kU at h
 simp only[Bool.and_eq_true,decide_eq_true_eq] at h
 obtain⟨hne,hd,hv⟩:=h
 have hp2:(bX w).2=true:=by
  cases w with
  | nil=>exact absurd rfl hne
  | cons c l =>
   by_cases hc:c=45
   ·subst hc
    have hm:jb (45 :: l)=l:=rfl
    rw[hm] at hne hd hv
    have h45:(45:UInt8).toNat=45:=rfl
    have hu:Lib.parseUintM (2 ^ 64 - 1) 0 l = .ok (bm 0 l):=Jd l 0 hd (by omega)
    have:Lib.parseIntB 64 (45 :: l) = .ok (-((bm 0 l:Nat):Int)):=by
     unfold Lib.parseIntB
     simp only
     rw[if_pos (.inr h45)]
     unfold Lib.parseUintB
     rw[if_neg hne,hu]
     simp only
     rw[if_neg (by omega),if_neg (by omega)]
     rfl
    unfold bX
    rw[this]
   ·have hm:jb (c :: l)=c :: l:=if_neg (by simpa using hc)
    rw[hm] at hd hv
    have hcd:48≤c.toNat∧c.toNat≤57:=by
     have hd':=hd
     simp only[List.all_cons,Bool.and_eq_true] at hd'
     simpa[dE] using hd'.1
    have hu:Lib.parseUintM (2 ^ 64 - 1) 0 (c :: l) = .ok (bm 0 (c :: l)):=Jd (c :: l) 0 hd (by omega)
    have:Lib.parseIntB 64 (c :: l) = .ok ((bm 0 (c :: l):Nat):Int):=by
     unfold Lib.parseIntB
     simp only
     rw[if_neg (by omega)]
     unfold Lib.parseUintB
     rw[if_neg (by simp),hu]
     simp only
     rw[if_neg (by omega),if_neg (by omega),if_neg (by omega)]
    unfold bX
    rw[this]
 exact Prod.ext (Im hne hd hp2) hp2
theorem V5 {w:ak} (h:nh w=false) (h1:(bX w).2=true) (h2:(decide (jb w≠[]) && (jb w).all dE)=true):an (vN (bX w).1)=false:=by
 simp only[Bool.and_eq_true,decide_eq_true_eq] at h2
 rw[Im h2.1 h2.2 h1]
 unfold qu
 rw[LF]
 unfold nh kU at h
 rw[decide_eq_true h2.1,h2.2] at h
 simpa using h
theorem P2 {w:ak} (h:nh w=true) : -1000000000000000≤qu w∧qu w≤1000000000000000:=by
 unfold nh kU at h
 simp only[Bool.and_eq_true,decide_eq_true_eq] at h
 unfold qu uw
 split <;> omega
theorem zn {x:ByteArray} (hx:x.size≤9223372036854775807) : ∃(t:ak) (b:Bool),yw x=some ((ba t,b,()),())∧yr x=some ((ba t,b,()),())∧t.length≤200:=by
 obtain⟨w,rfl⟩ : ∃ s,x=ba s:=⟨lb x,(hY x).symm⟩
 rw[MF,Mv,v6 hx,yQ hx]
 simp only[Option.bind_some]
 have e0 : ∀ x:ak,(ByteArray.toList (ba x) == ByteArray.toList (⟨#[]⟩:ByteArray))=decide (x=[]):=fun x=>dD (b:=[])
 rw[e0]
 cases hp:(plain (ba w) && decide (((ba w).size:Int)≤200)) with
 | false =>
  have hw:w≠[]:=by
   rintro rfl
   exact absurd hp (by decide)
  rw[decide_eq_false hw]
  exact⟨[],false,rfl,rfl,by simp⟩
 | true =>
  have hp':=hp
  rw[Bool.and_eq_true,decide_eq_true_eq,aN] at hp'
  have hl:w.length≤200:=by omega
  simp only[Bool.not_true,Bool.false_eq_true,if_false]
  by_cases hw:w=[]
  ·subst hw
   exact⟨[],true,rfl,rfl,by simp⟩
  ·rw[aw hw,aw hw]
   have hcut:cc (ba w) (⟨#[61]⟩:ByteArray)=_:=rI w [61] (by omega)
   rw[hcut]
   simp only[Option.bind_some,DL]
   cases w with
   | nil=>exact absurd rfl hw
   | cons c l =>
    rw[rG,GJ c 61 (n:=61) rfl]
    by_cases hc:c=61
    ·subst hc
     have hll:l.length≤200:=by rw[List.length_cons] at hl; omega
     simp only[List.head?_cons,decide_true,if_true,List.length_singleton,List.drop_succ_cons,List.drop_zero]
     rw[show(1:Int)=((1:Nat):Int) from rfl,fN (by simp)]
     simp only[List.drop_succ_cons,List.drop_zero]
     obtain⟨f,b,r1,r2,r3,r4⟩:=Je (x:=ba l) (by rw[aN]; omega)
     rw[r1,r2]
     simp only[Option.bind_some]
     have hsm:f.length≤10000000∧(∀ x∈f,x.2.2.1.2.2.1.size≤9223372036854775807) ∧ ∀ x∈f,x.2.2.2.2.2.1.length≤10000000:=by
      cases b with
      | false=>rw[r4 rfl]; simp
      | true =>
       have ho:=r3 rfl
       have hs:de f=true:=by
        unfold de
        rw[List.all_eq_true]
        intro y hy
        obtain⟨i,hi⟩:=List.getElem?_of_mem hy
        exact(mm ho i y hi).1
       have ho':=ho
       unfold fV at ho'
       rw[Bool.and_eq_true] at ho'
       have:=bA.1 ho'.1
       exact⟨by omega,Lu (uv hs),Lv (uv hs)⟩
     obtain⟨t,t1,t2,t3⟩:=GV hsm.1 hsm.2.1 hsm.2.2
     rw[t2,Ku,t1]
     simp only[Option.bind_some]
     rw[show(⟨#[61]⟩:ByteArray)=ba [61] from rfl,br (by simp only[List.length_singleton]; omega),e0,aN]
     cases b with
     | false =>
      simp only[Bool.not_false,if_true]
      refine⟨[],false,?_,rfl,by simp⟩
      by_cases ht:t=[] <;> simp[ht]
     | true =>
      simp only[Bool.not_true,Bool.false_eq_true,if_false]
      by_cases ht:t=[]
      ·refine⟨[],false,?_,?_,by simp⟩ <;> simp[ht]
      ·rw[wr (by omega) (by omega)]
       by_cases h2:t.length < 200
       ·refine⟨61 :: t,true,?_,?_,by rw[List.length_cons]; omega⟩
        ·rw[decide_eq_false ht,decide_eq_true (show(t.length:Int) < 200 by omega)]
         rfl
        ·rw[aw ht,aw (by omega),br (by simp only[List.length_singleton]; omega)]
         rfl
       ·refine⟨[],false,?_,?_,by simp⟩
        ·rw[decide_eq_false ht,decide_eq_false (show ¬(t.length:Int) < 200 by omega)]
         rfl
        ·rw[aw ht,az (by omega)]
    ·have hnc : ¬(some c=some (61:UInt8)):=by simpa using hc
     simp only[List.head?_cons,hnc,decide_false,Bool.false_eq_true,if_false,hc]
     generalize hwd:(c :: l:ak)=w at *
     have hsz:(ba w).size=w.length:=aN w
     rw[wd (by omega)]
     obtain⟨v,n1,n2⟩:=LG hw (by omega)
     rw[n1,LH (by omega),ng (by omega),rY (by omega)]
     simp only[Option.bind_some,iL]
     rw[ef (by show eS.size≤_; decide)]
     simp only[Option.bind_some]
     have tail : ∃(t:ak) (b:Bool),(if(bo w).2=true then(some ((ba w,true,()),(())):Option ((ByteArray×Bool×Unit)×Unit)) else(if((ByteArray.size (ba w):Int) == 200)=true then(some (((⟨#[]⟩:ByteArray),false,()),(()))) else(cats (⟨#[39]⟩:ByteArray) (ba w) fun y2=>(some ((y2,true,()),(()))))))=some ((ba t,b,()),())
       ∧ (if(!(bo w).2)=true then((gl (2,0,ba w,())).bind fun z7=>(if(decide ((ByteArray.size z7.1.1:Int) > 200))=true then(some (((⟨#[]⟩:ByteArray),false,()),(()))) else(some ((z7.1.1,true,()),(()))))) else((gl (bo w).1).bind fun z8=>(if(decide ((ByteArray.size z8.1.1:Int) > 200))=true then(some (((⟨#[]⟩:ByteArray),false,()),(()))) else(some ((z8.1.1,true,()),(()))))))=some ((ba t,b,()),())∧t.length≤200:=by
      cases hr:(bo w).2 with
      | true =>
       obtain⟨k1,k2⟩:=qn hr
       refine⟨w,true,rfl,?_,hl⟩
       simp only[Bool.not_true,Bool.false_eq_true,if_false]
       rw[kj (dk k1),if_pos k1,k2]
       simp only[Option.bind_some]
       rw[aw (by rw[hsz]; omega)]
      | false =>
       simp only[Bool.not_false,Bool.false_eq_true,if_false,if_true]
       have hov:an (2,0,ba w,())=true:=by
        unfold an
        rw[if_pos rfl]
        simp only[decide_true,Bool.true_and]
        exact hp
       have htx:dq (2,0,ba w,())=ba (39 :: w):=by
        show(⟨#[39]⟩:ByteArray)++ba w=_
        rw[show(⟨#[39]⟩:ByteArray)=ba [39] from rfl,rF]
        rfl
       rw[kj (dk hov),if_pos hov,htx,Px (by omega),show(⟨#[39]⟩:ByteArray)=ba [39] from rfl,rF]
       simp only[Option.bind_some,aN,List.length_cons]
       by_cases h2:w.length=200
       ·rw[if_pos (by simp[h2]),az (by omega)]
        exact⟨[],false,rfl,rfl,by simp⟩
       ·rw[if_neg (by simp only[beq_iff_eq]; omega),aw (by omega)]
        exact⟨39 :: w,true,rfl,rfl,by rw[List.length_cons]; omega⟩
     cases ho:nh w with
     | true =>
      have hpv:=MW ho
      have hrg:=P2 ho
      have hdg:(decide (jb w≠[]) && (jb w).all dE)=true:=by
       unfold nh kU at ho
       simp only[Bool.and_eq_true] at ho ⊢
       exact⟨ho.1,ho.2.1⟩
      have hok:an (vN (qu w))=true:=by
       rw[V3]
       exact bA.2 hrg
      have hit:=yU (n:=qu w) (by omega) (by omega)
      rw[n2 ho,hpv,hdg]
      simp only[if_true,hok]
      rw[v7 (by omega) (by omega),kj (dk hok),if_pos hok]
      refine⟨lb (gi (qu w)),true,?_,?_,by rw[qi]; omega⟩
      ·rw[hY]; rfl
      ·rw[hY]; rfl
     | false =>
      obtain⟨t,b,s1,s2,s3⟩:=tail
      refine⟨t,b,?_,?_,s3⟩
      ·cases h1:(bX w).2 with
       | false=>simpa using s1
       | true =>
        cases h2:(decide (jb w≠[]) && (jb w).all dE) with
        | false=>simpa using s1
        | true =>
         rw[V5 ho h1 h2]
         simpa using s1
      ·simpa using s2
noncomputable def lM (x:ByteArray):ByteArray×Bool:=if h:x.size≤9223372036854775807 then(ba (zn h).choose,(zn h).choose_spec.choose) else(eS,false)
theorem LJ {x:ByteArray} (h:x.size≤9223372036854775807):yw x=some (((lM x).1,(lM x).2,()),())∧yr x=some (((lM x).1,(lM x).2,()),())∧(lM x).1.size≤200:=by
 have hs:=(zn h).choose_spec.choose_spec
 unfold lM
 rw[dif_pos h]
 exact⟨hs.1,hs.2.1,by rw[aN]; exact hs.2.2⟩
noncomputable def pC (x:ByteArray):Bool:=(lM x).2 && !decide (x=eS) && decide ((lM x).1=x)
theorem Bo {x:ByteArray} (h:x.size≤9223372036854775807):u4 x=some ((pC x,()),()):=by
 rw[Kw,(LJ h).1]
 simp only[Option.bind_some,Ct]
 unfold pC
 cases (lM x).2 <;> by_cases hx:x=eS <;> simp[hx]
def cU (a b:al):Bool:=decide (a.2.1 < b.2.1) || (decide (a.2.1=b.2.1) && decide (a.1 < b.1))
theorem MX (a b:al):qc a b=some ((cU a b,()),()):=by
 rw[CJ]
 unfold cU
 by_cases h1:a.2.1 < b.2.1
 ·simp[h1]
 ·by_cases h2:a.2.1=b.2.1 <;> simp[h1,h2]
theorem FU (a b:al) : ∃ k:Int,lp a b=some ((k,()),())∧(k < 0↔cU a b=true):=by
 rw[vg,vA,vA]
 simp only[Option.bind_some]
 rw[DJ (by simp)]
 refine⟨_,rfl,?_⟩
 unfold cU
 by_cases h1:a.2.1 < b.2.1
 ·simp[jx,h1]
 ·by_cases h2:b.2.1 < a.2.1
  ·have h3 : ¬a.2.1=b.2.1:=by omega
   simp[jx,h1,h2,h3]
  ·have h3:a.2.1=b.2.1:=by omega
   by_cases h4:a.1 < b.1
   ·simp[jx,h1,h2,h3,h4]
   ·by_cases h5:b.1 < a.1
    ·simp[jx,h1,h2,h3,h4,h5]
    ·simp[jx,h1,h2,h3,h4,h5]
noncomputable def Bp:Option aj→List aj→Bool
 | _,[]=>true
 | o,c :: l=>ca c.1 && pC c.2.1 && (match o with | none=>true | some p=>cU p.1 c.1) && Bp (some c) l
noncomputable def bQ (s:List aj):Bool:=Bp none s && decide (s.length≤120)
section
variable {s:List aj} (hs : ∀ c∈s,c.2.1.size≤9223372036854775807) (hl:s.length≤1000000000)
include hs hl
theorem zO : ∀(ys pre:List aj),s=pre++ys→mT s s (s.length:Int) (pre.length:Int)=some ((Bp pre.getLast? ys && decide (s.length≤120),()),())
 | [],pre,h=>by
  rw[xv,aw (bi h)]
  simp only[Bp,Bool.true_and]
  congr 3
  rw[Bool.eq_iff_iff,decide_eq_true_eq,decide_eq_true_eq]
  omega
 | y :: ys,pre,h=>by
  have hy:=hs y (by rw[h]; simp)
  have ih:=zO ys (pre++[y]) (av h)
  rw[List.getLast?_append] at ih
  simp only[List.getLast?_singleton,Option.or_some,Option.some_or] at ih
  rw[xv,az (bq h),bk h,rC]
  simp only[Option.bind_some,Bp]
  cases hr:ca y.1 with
  | false=>simp
  | true =>
   simp only[Bool.not_true,Bool.false_eq_true,if_false,Bool.true_and]
   rcases List.eq_nil_or_concat pre with hp | ⟨q,z,hp⟩
   ·subst hp
    rw[aw (by simp),Bo hy]
    simp only[Option.bind_some,List.getLast?_nil,Bool.and_true]
    cases pC y.2.1 with
    | false=>simp
    | true =>
     simp only[Bool.not_true,Bool.false_eq_true,if_false,Bool.true_and]
     rw[aL (pre:=[]) h (by omega)]
     exact ih
   ·rw[List.concat_eq_append] at hp
    subst hp
    have hz:s=q++z :: (y :: ys):=by rw[h]; simp
    have hql:((q++[z]).length:Int) - 1=(q.length:Int):=by simp
    have hqs:q.length < s.length:=by rw[hz]; simp
    rw[az (by simp),hql,wr (by omega) (by omega),bk hz]
    obtain⟨k,k1,k2⟩:=FU z.1 y.1
    rw[k1]
    simp only[Option.bind_some,List.getLast?_append,List.getLast?_singleton,Option.some_or]
    by_cases hk:k < 0
    ·rw[aw (by omega),Bo hy,k2.1 hk]
     simp only[Option.bind_some,Bool.and_true]
     cases pC y.2.1 with
     | false=>simp
     | true =>
      simp only[Bool.not_true,Bool.false_eq_true,if_false,Bool.true_and]
      rw[aL h (by omega)]
      exact ih
    ·have:cU z.1 y.1=false:=by
      rw[Bool.eq_false_iff]
      exact fun e=>hk (k2.2 e)
     rw[az (by omega),this]
     simp
theorem CV:yx s=some ((bQ s,()),()):=by
 rw[MG]
 exact zO hs hl s [] rfl
end
section
variable {f:List aa} {n:Nat} {k L:Int}
end
section
variable {f:List aa} (hf:f.length≤60)
include hf
end
end Go.Proofs.YtnodjiikdgmeaaaGreatDoor.Abs
