/- Plain laws: the values of all cells, as the reference fills them in. -/
import Derived.Test.YtnodjiikdgmeaaaGreatDoorZM10
import Derived.Test.YtnodjiikdgmeaaaGreatDoorZM9
set_option linter.unusedVariables false
set_option linter.unusedSimpArgs false
set_option linter.unusedSectionVars false
namespace Go.Proofs.YtnodjiikdgmeaaaGreatDoor.Abs
open Go
def d8 (s:List ae) (V:Nat→ab) (pend:List Nat):List ac:=((List.range s.length).filter fun k => !decide (k∈pend)).map fun k=>(au s k,V k,())
theorem AN (s:List ae) (V:Nat→ab) (pend:List Nat):(d8 s V pend).Sublist (aB s V):=List.Sublist.map _ List.filter_sublist
theorem Wz (s:List ae) (V:Nat→ab):d8 s V []=aB s V:=by
 unfold d8 aB
 rw[List.filter_eq_self.2 fun k hk=>by simp]
theorem FE {s:List ae} {V:Nat→ab} {pend:List Nat} {c:ac}:c∈d8 s V pend ↔ ∃ k,k < s.length∧k ∉ pend∧(au s k,V k,())=c:=by
 unfold d8
 rw[List.mem_map]
 constructor
 ·rintro⟨k,hk,e⟩
  rw[List.mem_filter,List.mem_range] at hk
  exact⟨k,hk.1,by simpa using hk.2,e⟩
 ·rintro⟨k,h1,h2,e⟩
  exact⟨k,List.mem_filter.2 ⟨List.mem_range.2 h1,by simpa using h2⟩,e⟩
theorem WA {l m:List ac} (hs:l.Sublist m) (h:fU m=true):fU l=true:=by
 unfold fU at h ⊢
 simp only[Bool.and_eq_true,decide_eq_true_eq,List.all_eq_true] at h ⊢
 obtain⟨h1,h2,h3⟩:=h
 have hl:=hs.length_le
 refine⟨by omega,fun c hc=>h2 c (hs.subset hc),?_⟩
 exact Ns (List.Pairwise.sublist (List.Sublist.map _ hs) (TU h3)) (fun a e=>by cases e)
theorem IL {s:List ae} {V:Nat→ab} (h:jn s):(aB s V).Pairwise fun a b=>ci a.1 b.1=true:=by
 have h1:((aB s V).map (·.1)).Pairwise fun a b=>ci a b=true:=by
  rw[EI]
  exact List.Pairwise.map _ (fun a b h=>h) h
 exact List.pairwise_map.1 h1
theorem WB {s:List ae} {V:Nat→ab} {pend:List Nat} {ar:List aM} (h : ∀ k∈qK s ar,k ∉ pend):jm ar (d8 s V pend)=jm ar (aB s V):=by
 unfold jm d8 aB
 rw[List.filter_map,List.filter_map,List.filter_filter]
 congr 1
 refine List.filter_congr fun k hk => ?_
 show((ar.any fun a=>dG a (au s k)) && !decide (k∈pend))=ar.any fun a=>dG a (au s k)
 cases hc:(ar.any fun a=>dG a (au s k)) with
 | false=>rfl
 | true =>
  have:=h k (jz.2 ⟨List.mem_range.1 hk,hc⟩)
  simp[this]
def vU (c:ac):List ac→List ac
 | []=>[c]
 | y :: ys=>if gz y.1 c.1=true then y :: vU c ys else c :: y :: ys
theorem CP (c:ac) : ∀ l:List ac,(vU c l).Perm (c :: l)
 | [] => .refl _
 | y :: ys=>by
  unfold vU
  split
  ·exact((CP c ys).cons y).trans (.swap c y ys)
  ·exact .refl _
theorem Qh {c:ac} : ∀ {l:List ac},(l.Pairwise fun a b=>ci a.1 b.1=true)→(∀ y∈l,y.1≠c.1)→(vU c l).Pairwise fun a b=>ci a.1 b.1=true
 | [],_,_=>by simp[vU]
 | y :: ys,h,hn=>by
  have h':=List.pairwise_cons.1 h
  unfold vU
  by_cases k:gz y.1 c.1=true
  ·rw[if_pos k]
   refine List.pairwise_cons.2 ⟨fun z hz => ?_,Qh h'.2 fun z hz=>hn z (List.mem_cons_of_mem _ hz)⟩
   rcases List.mem_cons.1 ((CP c ys).mem_iff.1 hz) with rfl | hz
   ·exact k
   ·exact h'.1 z hz
  ·rw[if_neg k]
   have hc:ci c.1 y.1=true:=by
    rcases ED y.1 c.1 with e | e | e
    ·exact absurd e k
    ·exact absurd e (hn y (by simp))
    ·exact e
   refine List.pairwise_cons.2 ⟨fun z hz => ?_,h⟩
   rcases List.mem_cons.1 hz with rfl | hz
   ·exact hc
   ·exact ow hc (h'.1 z hz)
theorem NO {l:List ac} {c:ac} (hl:l.length≤1000000) : ∀(ys pre:List ac),l=pre++ys→wF l (pre.length:Int) c.1 c.2.1=some ((pre++vU c ys,()),())
 | [],pre,h=>by
  have hlen:l.length=pre.length:=by rw[h]; simp
  rw[Cd,ax (bw h),Tp (nn _) (by omega),bp (by simp only[List.length_nil,List.length_take]; omega),bp (by simp only[List.length_append,List.length_nil,List.length_take,List.length_singleton]; omega),GD (nn _) (by omega),bp (by simp only[List.length_append,List.length_nil,List.length_take,List.length_singleton,List.length_drop]; omega)]
  rw[h]
  simp[vU]
 | y :: ys,pre,h=>by
  have hlen:l.length=pre.length+(ys.length+1):=by rw[h]; simp
  rw[Cd,aF (bH h),bC h,Cq,Option.bind_some]
  dsimp only
  unfold vU
  by_cases k:gz y.1 c.1=true
  ·rw[if_pos k,if_pos k,aO h (by omega),NO hl ys _ (av h)]
   simp
  ·rw[if_neg k,if_neg k,Tp (nn _) (by omega),bp (by simp only[List.length_nil,List.length_take]; omega),bp (by simp only[List.length_append,List.length_nil,List.length_take,List.length_singleton]; omega),GD (nn _) (by omega),bp (by simp only[List.length_append,List.length_nil,List.length_take,List.length_singleton,List.length_drop]; omega)]
   rw[h]
   simp
theorem UL {l:List ac} (c:ac) (hl:l.length≤1000000):lk l c=some ((vU c l,()),()):=by
 rw[TE]
 exact NO hl l [] rfl
theorem WC {s:List ae} {V:Nat→ab} (hs:jn s) {p q:List Nat} {j:Nat} (hj:j < s.length) (hp:j∈p) (hq : ∀ k,k∈q↔k∈p∧k≠j):vU (au s j,V j,()) (d8 s V p)=d8 s V q:=by
 have pw:=fun r=>List.Pairwise.sublist (AN s V r) (IL (V:=V) hs)
 refine NB (lt:=fun a b:ac=>ci a.1 b.1) (fun x=>vK _) (fun x y z h k=>ow h k) (Qh (pw p) fun y hy => ?_) (pw q) fun y => ?_
 ·obtain⟨k,h1,h2,rfl⟩:=FE.1 hy
  intro e
  have:=rL hs h1 hj e
  exact h2 (this ▸ hp)
 ·rw[(CP _ _).mem_iff,List.mem_cons,FE,FE]
  constructor
  ·rintro(rfl | ⟨k,h1,h2,rfl⟩)
   ·exact⟨j,hj,fun h=>((hq j).1 h).2 rfl,rfl⟩
   ·exact⟨k,h1,fun h=>h2 ((hq k).1 h).1,rfl⟩
  ·rintro⟨k,h1,h2,rfl⟩
   by_cases e:k=j
   ·subst e
    exact .inl rfl
   ·exact .inr ⟨k,h1,fun h=>h2 ((hq k).2 ⟨h,e⟩),rfl⟩
section
variable {s:List ae} (hs:aW s=true) {told:Nat→Bool} {given:Nat→ab} (hg : ∀ k,k < s.length→ao (given k)=true)
include hs hg
theorem Qi : ∀(n k:Nat),k < s.length→ao (lT s told given n k)=true
 | 0,k,hk=>ML
 | n+1,k,hk=>by
  unfold lT
  split
  ·exact hg k hk
  ·cases hf:bI (bS s k) with
   | none=>exact UJ _
   | some f =>
    dsimp only
    split
    ·exact oF (by decide) (by decide)
    ·exact Kf (j8 hf (cj hs k)) (jR hs fun j hj=>Qi n j hj)
theorem Qj {k:Nat} (hk:k < s.length):ao (dd s told given k)=true:=Qi hs hg _ k hk
theorem XU (p:List Nat):fU (d8 s (dd s told given) p)=true:=WA (AN _ _ _) (jR hs fun k hk=>Qj hs hg hk)
theorem UM {f:List aa} {i:Nat} {p:List Nat} (hf:bI (bS s i)=some f) (h : ∀ k∈bk s i,k ∉ p) (ht:told i=false) (hr : ¬dh (bk s) i i):wx f (d8 s (dd s told given) p)=some ((dd s told given i,()),()):=by
 have hok:=j8 hf (cj hs i)
 have hsm:=vJ hok
 have hl:=hsm.1
 have hn:=aX hs
 have hv:=XU (told:=told) hs hg p
 have hdl:=(AN s (dd s told given) p).length_le
 rw[et] at hdl
 have e:gh f (d8 s (dd s told given) p)=dd s told given i:=by
  rw[lN (cj hs) i,if_neg (by simp[ht]),hf]
  simp only[if_neg hr]
  refine CN hok (WB fun k hk=>h k ?_)
  unfold bk ii
  rw[hf]
  exact hk
 rw[VY (by omega) (fun c hc=>Nat.le_trans (dj (iw hv c hc)) (by decide)) (by omega) hsm.2.1 hsm.2.2]
 unfold Dn
 rw[if_pos hok,if_pos hv,e]
theorem XV {p q:List Nat} {j:Nat} (hj:j < s.length) (hp:j∈p) (hq : ∀ k,k∈q↔k∈p∧k≠j):lk (d8 s (dd s told given) p) (au s j,dd s told given j,())=some ((d8 s (dd s told given) q,()),()):=by
 have hn:=aX hs
 have hdl:=(AN s (dd s told given) p).length_le
 rw[et] at hdl
 rw[UL _ (by omega),WC (bP hs) hj hp hq]
omit hg in
theorem HA {t:List Nat} {k:Nat} (hk:k < s.length) (ht : ∀ j∈t,j < s.length) (hl:t.length≤1000000):mv (t.map (au s)) (au s k)=some ((decide (k∈t),()),()):=by
 rw[tc _ (by rw[List.length_map]; omega)]
 have:decide (au s k∈t.map (au s))=decide (k∈t):=by
  rw[Bool.eq_iff_iff,decide_eq_true_eq,decide_eq_true_eq]
  exact Hy (bP hs) hk ht
 rw[this]
def ip (lft rest:List Nat) (i:Nat) (k:Nat):Bool:=decide (k∈lft.drop i) || decide (k∈rest)
section
variable {lft rest:List Nat} (hlf : ∀ k∈lft,k < s.length) (hre : ∀ k∈rest,k < s.length) (hll:lft.length≤120) (hrl:rest.length≤120)
include hlf hre hll hrl
omit hg in
theorem rM {i:Nat} (hi:i < lft.length) {f:List aa} {a b:Int} {c:ByteArray} {done:List ac} {ln:List Nat} (hln : ∀ k∈ln,k < s.length) (hlnl:ln.length≤120) : ∀(ys pre:List Nat) (w:Bool),ln=pre++ys →
  fM s (i:Int) w (pre.length:Int) done (lft.map (au s)) (rest.map (au s)) f a b c (ln.map (au s)) =
  if(w || ys.any (ip lft rest i))=true then(ix (lft.map (au s)) (i:Int) (am.dflt) fun y2=>(app (rest.map (au s)) ([y2]:(List al)) 16 fun y3=>(eW s (IntKind.i64.wrap ((i:Int)+1)) done (lft.map (au s)) y3)))
  else((wx f done).bind fun z3=>(ix (lft.map (au s)) (i:Int) (am.dflt) fun y4=>((lk done (y4,z3.1.1,())).bind fun z4=>(eW s (IntKind.i64.wrap ((i:Int)+1)) z4.1.1 (lft.map (au s)) (rest.map (au s))))))
 | [],pre,w,h=>by
  have e:=bw h
  rw[wY,ax (by rw[List.length_map]; exact e),List.any_nil,Bool.or_false]
 | y :: ys,pre,w,h=>by
  have hlen:ln.length=pre.length+(ys.length+1):=by rw[h]; simp
  have hlt:(pre.length:Int) < ((ln.map (au s)).length:Int):=by rw[List.length_map]; exact bH h
  have hgt:List.getD (ln.map (au s)) (Int.toNat (pre.length:Int)) am.dflt=au s y:=by
   rw[h,List.getD_eq_getElem?_getD]
   simp
  have hy:=hln y (by rw[h]; simp)
  have hw:IntKind.i64.wrap ((pre.length:Int)+1)=((pre++[y]).length:Int):=aO h (by omega)
  rw[wY,aF hlt,hw]
  cases w with
  | true =>
   rw[if_pos rfl,rM hi hln hlnl ys _ true (av h)]
   simp only[Bool.true_or]
  | false =>
   have hdr:List.drop ((i:Int).toNat) (lft.map (au s))=(lft.drop i).map (au s):=by rw[Int.toNat_natCast,List.map_drop]
   rw[if_neg (by decide),GD (nn _) (by rw[List.length_map]; omega),hdr,bD (nn _) hlt,hgt,HA hs hy (fun j hj=>hlf j (List.mem_of_mem_drop hj)) (by rw[List.length_drop]; omega),Option.bind_some]
   dsimp only
   have hany:(y :: ys).any (ip lft rest i)=(ip lft rest i y || ys.any (ip lft rest i)):=List.any_cons
   by_cases h1:y∈lft.drop i
   ·have hwt:ip lft rest i y=true:=by
     unfold ip
     simp[h1]
    rw[decide_eq_true h1,if_pos rfl,rM hi hln hlnl ys _ true (av h),hany,hwt]
    simp only[Bool.true_or,Bool.false_or]
   ·have hwt:ip lft rest i y=decide (y∈rest):=by
     unfold ip
     simp[h1]
    rw[decide_eq_false h1,if_neg (by decide),bD (nn _) hlt,HA hs hy hre (by omega),Option.bind_some]
    dsimp only
    rw[rM hi hln hlnl ys _ _ (av h),hany,hwt]
    simp only[Bool.false_or]
omit hg in
theorem XW {i:Nat} (hi:i < lft.length) {f:List aa} {a b:Int} {c:ByteArray} {done:List ac} {ln:List Nat} (hln : ∀ k∈ln,k < s.length) (hlnl:ln.length≤120) :
  si s (i:Int) false 0 done (lft.map (au s)) (rest.map (au s)) f a b c (ln.map (au s)) =
  if(ln.any (ip lft rest i))=true then(ix (lft.map (au s)) (i:Int) (am.dflt) fun y2=>(app (rest.map (au s)) ([y2]:(List al)) 16 fun y3=>(eW s (IntKind.i64.wrap ((i:Int)+1)) done (lft.map (au s)) y3)))
  else if ln=[] then((wx f done).bind fun z3=>(ix (lft.map (au s)) (i:Int) (am.dflt) fun y4=>((lk done (y4,z3.1.1,())).bind fun z4=>(iv s (IntKind.i64.wrap ((i:Int)+1)) z4.1.1 (lft.map (au s)) (rest.map (au s))))))
  else((wx f done).bind fun z3=>(ix (lft.map (au s)) (i:Int) (am.dflt) fun y4=>((lk done (y4,z3.1.1,())).bind fun z4=>(eW s (IntKind.i64.wrap ((i:Int)+1)) z4.1.1 (lft.map (au s)) (rest.map (au s)))))):=by
 have hlt':(i:Int) < ((lft.map (au s)).length:Int):=by rw[List.length_map]; omega
 cases ln with
 | nil =>
  rw[yS,ax (by simp),if_neg (by decide),if_neg (by simp),if_pos rfl]
  congr 1
 | cons y ys =>
  have hlt:(0:Int) < (((y :: ys).map (au s)).length:Int):=by simp only[List.map_cons,List.length_cons]; omega
  have hgt:List.getD ((y :: ys).map (au s)) (Int.toNat (0:Int)) am.dflt=au s y:=rfl
  have hy:=hln y (by simp)
  have hw:IntKind.i64.wrap ((0:Int)+1)=(([y]:List Nat).length:Int):=by
   show IntKind.i64.wrap ((0:Int)+1)=(1:Int)
   decide
  have hdr:List.drop ((i:Int).toNat) (lft.map (au s))=(lft.drop i).map (au s):=by rw[Int.toNat_natCast,List.map_drop]
  rw[yS,aF hlt,hw,if_neg (by decide),GD (nn _) (by rw[List.length_map]; omega),hdr,bD (Int.le_refl 0) hlt,hgt,HA hs hy (fun j hj=>hlf j (List.mem_of_mem_drop hj)) (by rw[List.length_drop]; omega),Option.bind_some]
  dsimp only
  rw[if_neg (show ¬(y :: ys)=[] by simp)]
  have hany:(y :: ys).any (ip lft rest i)=(ip lft rest i y || ys.any (ip lft rest i)):=List.any_cons
  by_cases h1:y∈lft.drop i
  ·have hwt:ip lft rest i y=true:=by
    unfold ip
    simp[h1]
   rw[decide_eq_true h1,if_pos rfl,rM hs hlf hre hll hrl hi hln hlnl ys [y] true rfl,hany,hwt]
  ·have hwt:ip lft rest i y=decide (y∈rest):=by
    unfold ip
    simp[h1]
   rw[decide_eq_false h1,if_neg (by decide),bD (Int.le_refl 0) hlt,HA hs hy hre (by omega),Option.bind_some]
   dsimp only
   rw[rM hs hlf hre hll hrl hi hln hlnl ys [y] _ rfl,hany,hwt]
end
def K4 (s:List ae) (lft:List Nat) (j:Nat):Prop:=bI (bS s j)=none∨dh (bk s) j j ∨ ∀ k∈bk s j,k ∉ lft
theorem AO {lft:List Nat} (hd:lft.Nodup) (hlf : ∀ k∈lft,k < s.length∧told k=false) : ∀(ys pre rest:List Nat),lft=pre++ys→rest.Sublist pre→(∀ k∈rest,¬K4 s lft k) →
  ∃ rest',iv s (pre.length:Int) (d8 s (dd s told given) (rest++ys)) (lft.map (au s)) (rest.map (au s))=jJ s (d8 s (dd s told given) rest') (rest'.map (au s))∧eW s (pre.length:Int) (d8 s (dd s told given) (rest++ys)) (lft.map (au s)) (rest.map (au s))=jJ s (d8 s (dd s told given) rest') (rest'.map (au s))∧rest'.Sublist lft ∧ ∀ k∈rest',¬K4 s lft k
 | [],pre,rest,h,hr,hf=>by
  have e:=bw h
  have hpre:lft=pre:=by rw[h]; simp
  refine⟨rest,?_,?_,hpre ▸ hr,hf⟩
  ·rw[yR,ax (by rw[List.length_map]; exact e),List.append_nil]
  ·rw[wZ,ax (by rw[List.length_map]; exact e),List.append_nil]
 | y :: ys,pre,rest,h,hr,hf=>by
  have hn:=aX hs
  have hlft:=fun k hk=>(hlf k hk).1
  have hll:=vQ s.length lft hd hlft
  have hlen:lft.length=pre.length+(ys.length+1):=by rw[h]; simp
  have hrl:=hr.length_le
  have hym:y∈lft:=by rw[h]; simp
  obtain⟨hy,hyt⟩:=hlf y hym
  have hlt:(pre.length:Int) < ((lft.map (au s)).length:Int):=by rw[List.length_map]; exact bH h
  have hgt:List.getD (lft.map (au s)) (Int.toNat (pre.length:Int)) am.dflt=au s y:=by
   rw[h,List.getD_eq_getElem?_getD]
   simp
  have hix : ∀ {β:Type} (F:al→Option β),ix (lft.map (au s)) (pre.length:Int) am.dflt F=F (au s y):=by
   intro β F
   unfold ix
   rw[if_pos (nn _),if_pos hlt,hgt]
  have hw:IntKind.i64.wrap ((pre.length:Int)+1)=((pre++[y]).length:Int):=aO h (by omega)
  have hd':=hd
  rw[h,List.nodup_append] at hd'
  obtain⟨_,hd2,hd3⟩:=hd'
  have hd2:=List.nodup_cons.1 hd2
  have hyr:y ∉ rest:=fun hm=>hd3 y (hr.subset hm) y (by simp) rfl
  have hq : ∀ k,k∈rest++ys↔k∈rest++y :: ys∧k≠y:=by
   intro k
   simp only[List.mem_append,List.mem_cons]
   constructor
   ·rintro(e | e)
    ·exact⟨.inl e,fun x=>hyr (x ▸ e)⟩
    ·exact⟨.inr (.inr e),fun x=>hd2.1 (x ▸ e)⟩
   ·rintro⟨e | e | e,hne⟩
    ·exact .inl e
    ·exact absurd e hne
    ·exact .inr e
  have hsub:rest.Sublist (pre++[y]):=hr.trans (List.sublist_append_left _ _)
  have hput:=XV (told:=told) hs hg hy (p:=rest++y :: ys) (by simp) hq
  have ihF:=AO hd hlf ys (pre++[y]) rest (av h) hsub hf
  have hsz:=cj hs y
  have hrv:kW (bS s y)=some (((bb (lb (bS s y))).1,(bb (lb (bS s y))).2,()),()):=by
   have:=oJ (w:=lb (bS s y)) (by rw[jy]; omega)
   rw[eO] at this
   exact this
  have hsrc:dk (au s y) s=bS s y:=DN (bP hs) hy
  have hve:=lN (told:=told) (given:=given) (cj hs) y
  rw[if_neg (by simp[hyt])] at hve
  rw[yR,wZ,aF hlt,aF hlt,bD (nn _) hlt,hix,hgt,NA (by omega),hsrc]
  simp only[Option.bind_some,W5 hsz,hrv,hw]
  cases hfo:bI (bS s y) with
  | none =>
   rw[hfo] at hve
   simp only[Option.isSome_none,Bool.false_eq_true,if_false,bD (nn _) hlt,hix,←hve,hput,Option.bind_some]
   exact ihF
  | some f =>
   rw[hfo] at hve
   simp only[Option.isSome_some,if_true,dU,Option.bind_some,bD (nn _) hlt,hix,So hs hy]
   by_cases hrc:dh (bk s) y y
   ·simp only[if_pos hrc] at hve
    have hrb:=fi.2 hrc
    simp only[hrb,Bool.not_true,Bool.false_eq_true,if_false,bD (nn _) hlt,hix]
    have e5:(vE 5)=dd s told given y:=hve.symm
    simp only[e5,hput,Option.bind_some]
    exact ihF
   ·simp only[if_neg hrc] at hve
    have hrb:pf s y=false:=by
     rw[Bool.eq_false_iff,ne_eq,fi]
     exact hrc
    have hlnl:(bk s y).length≤s.length:=uF s (ii s y)
    have hre : ∀ k∈rest,k < s.length:=fun k hk=>hlft k (by rw[h]; exact List.mem_append_left _ (hr.subset hk))
    have hfin:=XW hs hlft hre (by omega) (by omega) (i:=pre.length) (by omega) (f:=f) (a:=(vE 5).1) (b:=(vE 5).2.1) (c:=(vE 5).2.2.1) (done:=d8 s (dd s told given) (rest++y :: ys)) (ln:=bk s y) (fun k hk=>ij hk) (by omega)
    have hfin2:=rM hs hlft hre (by omega) (by omega) (i:=pre.length) (by omega) (f:=f) (a:=(vE 5).1) (b:=(vE 5).2.1) (c:=(vE 5).2.2.1) (done:=d8 s (dd s told given) (rest++y :: ys)) (ln:=bk s y) (fun k hk=>ij hk) (by omega) (bk s y) [] false rfl
    have hfin2:fM s (pre.length:Int) false 0 (d8 s (dd s told given) (rest++y :: ys)) (lft.map (au s)) (rest.map (au s)) f (vE 5).1 (vE 5).2.1 (vE 5).2.2.1 ((bk s y).map (au s))=_:=hfin2
    rw[Bool.false_or] at hfin2
    have hdrop:lft.drop pre.length=y :: ys:=by rw[h]; simp
    simp only[hrb,Bool.not_false,if_true,bD (nn _) hlt,hix,NI hs hy,Option.bind_some,Option.getD_some,hfin,hfin2]
    by_cases hwt:(bk s y).any (ip lft rest pre.length)=true
    ·have hfr : ¬K4 s lft y:=by
      rintro(e | e | e)
      ·rw[hfo] at e
       cases e
      ·exact hrc e
      ·obtain⟨k,hk,hkw⟩:=List.any_eq_true.1 hwt
       refine e k hk ?_
       unfold ip at hkw
       rw[Bool.or_eq_true,decide_eq_true_eq,decide_eq_true_eq] at hkw
       rcases hkw with hkw | hkw
       ·exact List.mem_of_mem_drop hkw
       ·rw[h]
        exact List.mem_append_left _ (hr.subset hkw)
     have ihT:=AO hd hlf ys (pre++[y]) (rest++[y]) (av h) (hr.append (List.Sublist.refl _)) (fun k hk=>by
      rcases List.mem_append.1 hk with hk | hk
      ·exact hf k hk
      ·rw[List.mem_singleton.1 hk]
       exact hfr)
     have e1:rest.map (au s)++[au s y]=(rest++[y]).map (au s):=by simp
     have e2:(rest++[y])++ys=rest++y :: ys:=by simp
     rw[e2] at ihT
     obtain⟨rest',a1,a2,a3,a4⟩:=ihT
     simp only[if_pos hwt,hix]
     rw[bp (by simp only[List.length_map,List.length_singleton]; omega),e1,hw]
     exact⟨rest',a2,a2,a3,a4⟩
    ·have hno : ∀ k∈bk s y,k ∉ rest++y :: ys:=by
      intro k hk hkm
      apply hwt
      rw[List.any_eq_true]
      refine⟨k,hk,?_⟩
      unfold ip
      rw[hdrop,Bool.or_eq_true,decide_eq_true_eq,decide_eq_true_eq]
      exact(List.mem_append.1 hkm).symm
     have hev:=UM hs hg hfo hno hyt hrc
     obtain⟨rest',a1,a2,a3,a4⟩:=ihF
     simp only[if_neg hwt,hev,Option.bind_some,hix,hput,hw]
     refine⟨rest',?_,?_,a3,a4⟩
     ·first
      | exact a1
      | exact a2
      | (split <;> first | exact a1 | exact a2)
     ·first
      | exact a1
      | exact a2
      | (split <;> first | exact a1 | exact a2)
theorem Qk : ∀(m:Nat) (lft:List Nat),lft.length≤m→lft.Nodup→(∀ k∈lft,k < s.length∧told k=false)→jJ s (d8 s (dd s told given) lft) (lft.map (au s))=some ((aB s (dd s told given),()),())
 | m,[],_,_,_=>by
  rw[Ba,ax (by simp),Wz]
 | 0,y :: ys,h,_,_=>by simp at h
 | m+1,y :: ys,h,hd,hlf=>by
  obtain⟨rest',a1,_,a3,a4⟩:=AO hs hg hd hlf (y :: ys) [] [] rfl (List.Sublist.refl _) (fun k hk=>by cases hk)
  have hfree : ∃ j∈y :: ys,K4 s (y :: ys) j:=by
   by_cases hx : ∃ j∈y :: ys,dh (bk s) j j
   ·obtain⟨j,h1,h2⟩:=hx
    exact⟨j,h1,.inr (.inl h2)⟩
   ·obtain⟨i,h1,h2⟩:=VU (L:=bk s) (N:=List.range s.length) DL (l:=y :: ys) (by simp) (fun i hi hr=>hx ⟨i,hi,hr⟩)
    exact⟨i,h1,.inr (.inr h2)⟩
  obtain⟨j,h1,h2⟩:=hfree
  have hlt:rest'.length < (y :: ys).length:=by
   rcases Nat.lt_or_ge rest'.length (y :: ys).length with e | e
   ·exact e
   ·have:=a3.eq_of_length (Nat.le_antisymm a3.length_le e)
    exact absurd h2 (a4 j (this ▸ h1))
  have ih:=Qk m rest' (by omega) (hd.sublist a3) (fun k hk=>hlf k (a3.subset hk))
  rw[Ba,aF (by simp only[List.map_cons,List.length_cons]; omega)]
  exact a1.trans ih
end
section
variable {s:List ae} (hs:aW s=true) {known:List ac} (hk:known.length≤1000000) (hkv : ∀ c∈known,ao c.2.1=true) {ask:List al} (ha:ask.length≤1000000)
include hs hk ha
theorem IM : ∀(ys pre:List ae) (done:List ac) (left:List al),s=pre++ys→done.length≤pre.length→left.length≤pre.length →
  qp s known ask (pre.length:Int) done left=jJ s (done++(ys.filter fun c => !decide (c.1∈ask)).map fun c=>(c.1,dt known c.1,())) (left++(ys.filter fun c=>decide (c.1∈ask)).map (·.1))
 | [],pre,done,left,h,h1,h2=>by
  rw[A8,ax (bw h)]
  simp
 | y :: ys,pre,done,left,h,h1,h2=>by
  have hn:=aX hs
  have hlen:s.length=pre.length+(ys.length+1):=by rw[h]; simp
  rw[A8,aF (bH h)]
  simp only[bC h,tc _ (show ask.length≤1000000000 by omega),Option.bind_some,MK (xs:=known) (by omega)]
  rw[aO h (by omega)]
  by_cases e:y.1∈ask
  ·rw[decide_eq_true e,if_pos rfl,bp (by simp only[List.length_singleton]; omega),IM ys _ _ _ (av h) (by simp only[List.length_append,List.length_singleton]; omega) (by simp only[List.length_append,List.length_singleton]; omega)]
   rw[List.filter_cons_of_neg (by simp[e]),List.filter_cons_of_pos (by simp[e])]
   simp
  ·rw[decide_eq_false e,if_neg (by decide),bp (by simp only[List.length_singleton]; omega),IM ys _ _ _ (av h) (by simp only[List.length_append,List.length_singleton]; omega) (by simp only[List.length_append,List.length_singleton]; omega)]
   rw[List.filter_cons_of_pos (by simp[e]),List.filter_cons_of_neg (by simp[e])]
   simp
include hkv
theorem HC:yt s known ask=some ((aB s (dd s (fun k => !decide (au s k∈ask)) fun k=>dt known (au s k)),()),()):=by
 have h0:=IM hs hk ha s [] [] [] rfl (Nat.le_refl _) (Nat.le_refl _)
 have key : ∀ t:List ae,(List.range s.length).map (fun i=>s.getD i ap.dflt)=t→(t.filter fun c=>decide (c.1∈ask)).map (·.1)=((List.range s.length).filter fun k=>decide (au s k∈ask)).map (au s)∧((t.filter fun c => !decide (c.1∈ask)).map fun c=>((c.1,dt known c.1,()):ac))=((List.range s.length).filter fun k => !decide (au s k∈ask)).map fun k=>(au s k,dt known (au s k),()):=by
  rintro _ rfl
  rw[List.filter_map,List.filter_map,List.map_map,List.map_map]
  exact⟨rfl,rfl⟩
 obtain⟨k1,k2⟩:=key s (xi s _)
 have hg : ∀ k,k < s.length→ao (dt known (au s k))=true:=fun k _=>Au hkv
 have hd:d8 s (dd s (fun k => !decide (au s k∈ask)) fun k=>dt known (au s k)) ((List.range s.length).filter fun k=>decide (au s k∈ask))=((List.range s.length).filter fun k => !decide (au s k∈ask)).map fun k=>(au s k,dt known (au s k),()):=by
  unfold d8
  have e1:((List.range s.length).filter fun k => !decide (k∈(List.range s.length).filter fun k=>decide (au s k∈ask)))=(List.range s.length).filter fun k => !decide (au s k∈ask):=by
   refine List.filter_congr fun k hk => ?_
   congr 1
   rw[Bool.eq_iff_iff,decide_eq_true_eq,decide_eq_true_eq,List.mem_filter,decide_eq_true_eq]
   exact⟨fun h=>h.2,fun h=>⟨hk,h⟩⟩
  rw[e1]
  refine List.map_congr_left fun k hk => ?_
  rw[List.mem_filter] at hk
  rw[lN (cj hs) k,if_pos hk.2]
 rw[Rr]
 refine h0.trans ?_
 rw[List.nil_append,List.nil_append,k1,k2,←hd]
 refine Qk hs hg _ _ (Nat.le_refl _) (List.Pairwise.filter _ List.nodup_range) (fun k hk => ?_)
 rw[List.mem_filter,List.mem_range] at hk
 exact⟨hk.1,by rw[hk.2]; rfl⟩
end
noncomputable def gB (s:List ae) (refs:List al) (i:Nat):Bool:=decide (au s i∈refs) || refs.any fun r=>(ii s i).any fun a=>dG a r
inductive xj (s:List ae) (refs:List al):Nat→Prop
 | base {i:Nat} (h:gB s refs i=true):xj s refs i
 | step {i k:Nat} (h:k∈bk s i) (t:xj s refs k):xj s refs i
open Classical in
noncomputable def bW (s:List ae) (refs:List al) (i:Nat):Bool:=decide (xj s refs i)
open Classical in
theorem FF {s:List ae} {refs:List al} {i:Nat}:bW s refs i=true↔xj s refs i:=by
 unfold bW
 exact⟨fun h=>of_decide_eq_true h,fun h=>decide_eq_true h⟩
theorem WD {refs:List al} {ar:List aM} (hl:refs.length≤1000000000) (ha:ar.length≤1000000000):bE refs (refs.length:Int) 0 ar=some ((kI (fun r=>ar.any fun a=>dG a r) refs 0,()),(ar,())):=by
 have:=vM (s:=refs) (d:=am.dflt) (p:=fun r=>ar.any fun a=>dG a r) (P:=fun j=>bE refs (refs.length:Int) j ar) (F:=fun j=>some ((j,()),(ar,()))) (by omega) (fun j=>by
  rw[eX]
  simp only[Bo,NG _ ha,Option.bind_some]) refs [] rfl
 exact this
theorem XX {refs:List al} {ar:List aM} (hl:refs.length≤1000000000) (ha:ar.length≤1000000000):cz refs ar=some ((refs.any fun r=>ar.any fun a=>dG a r,()),(ar,())):=by
 have e:dE refs (refs.length:Int) 0 ar=bE refs (refs.length:Int) 0 ar:=by
  rw[kg,eX]
 rw[kf,k9,e,WD hl ha]
 simp only[Option.bind_some,vP]
theorem NP {ln:List Nat} {out:List Bool} (hl:ln.length≤1000000000) (ho : ∀ k∈ln,k < out.length) : ∀(ys pre:List Nat),ln=pre++ys→bj (ln.map fun k:Nat=>(k:Int)) (ln.length:Int) (pre.length:Int) out=some ((kI (fun k=>out.getD k false) ys pre.length,()),(out,()))
 | [],pre,h=>by
  rw[cA,ax (bw h)]
  rfl
 | y :: ys,pre,h=>by
  have ih:=NP hl ho ys (pre++[y]) (av h)
  have hg:(ln.map fun k:Nat=>(k:Int))[pre.length]? = some (y:Int):=by
   rw[h]
   simp
  have hy:=ho y (by rw[h]; simp)
  rw[cA,aF (bH h),jQ hg,Bp,bD (nn _) (by omega),Option.bind_some,aO h (by omega),ih]
  rw[show kI (fun k=>out.getD k false) (y :: ys) pre.length=if out.getD y false=true then(pre.length:Int) else kI (fun k=>out.getD k false) ys (pre.length+1) from rfl]
  dsimp only
  rw[Int.toNat_natCast,List.length_append,List.length_singleton]
  by_cases e:out.getD y false=true
  ·rw[if_pos e,if_pos e]
  ·rw[if_neg e,if_neg e]
theorem XY {ln:List Nat} {out:List Bool} (hl:ln.length≤1000000000) (ho : ∀ k∈ln,k < out.length):cW (ln.map fun k:Nat=>(k:Int)) out=some ((ln.any fun k=>out.getD k false,()),(out,())):=by
 have e:cX (ln.map fun k:Nat=>(k:Int)) (ln.length:Int) 0 out=bj (ln.map fun k:Nat=>(k:Int)) (ln.length:Int) 0 out:=by
  rw[iL,cA]
 have e2:=NP hl ho ln [] rfl
 have e2:bj (ln.map fun k:Nat=>(k:Int)) (ln.length:Int) 0 out=some ((kI (fun k=>out.getD k false) ln 0,()),(out,())):=e2
 rw[iK,jl,List.length_map,e,e2]
 simp only[Option.bind_some,vP]
section
variable {s:List ae} (hs:aW s=true) {refs:List al} (hr:refs.length≤120)
include hs
structure Sq (s:List ae) (refs:List al) (out:List Bool):Prop where
 len:out.length=s.length
 snd : ∀ k,k < s.length→out.getD k false=true→xj s refs k
 bas : ∀ k,k < s.length→gB s refs k=true→out.getD k false=true
theorem Sr {out:List Bool} (hI:Sq s refs out) (hc : ∀ k,k < s.length→out.getD k false=false → ∀ l∈bk s k,out.getD l false=false):out=(List.range s.length).map (bW s refs):=by
 have key : ∀ k,xj s refs k→k < s.length→out.getD k false=true:=by
  intro k h
  induction h with
  | base h=>exact fun hk=>hI.bas _ hk h
  | step h t ih =>
   intro hk
   cases e:out.getD _ false with
   | true=>rfl
   | false =>
    have:=hc _ hk e _ h
    rw[ih (ij h)] at this
    cases this
 apply List.ext_getElem
 ·rw[hI.len,List.length_map,List.length_range]
 ·intro k h1 h2
  have hk:k < s.length:=by rw[←hI.len]; exact h1
  have e:out.getD k false=out[k]:=by
   rw[List.getD_eq_getElem?_getD,List.getElem?_eq_getElem h1]
   rfl
  rw[List.getElem_map,List.getElem_range,←e,Bool.eq_iff_iff,FF]
  exact⟨hI.snd k hk,fun h=>key k h hk⟩
theorem HD {m:Nat} (IH : ∀ out,Sq s refs out→out.count false < m→fW true s (gF s) (gL s) out=some (((List.range s.length).map (bW s refs),()),())) : ∀(j i:Nat) (more:Bool) (out:List Bool),i+j=s.length→Sq s refs out→out.count false≤m→(more=true→out.count false < m)→(more=false → ∀ k,k < i→out.getD k false=false → ∀ l∈bk s k,out.getD l false=false) →
  fy more (gL s) (s.length:Int) (i:Int) s (gF s) (gL s) out=some (((List.range s.length).map (bW s refs),()),())
 | 0,i,more,out,h,hI,h1,h2,h3=>by
  rw[py,ax (by omega)]
  cases more with
  | true=>exact IH out hI (h2 rfl)
  | false =>
   rw[qy,if_neg (by decide),←Sr hs hI fun k hk=>h3 rfl k (by omega)]
 | j+1,i,more,out,h,hI,h1,h2,h3=>by
  have hn:=aX hs
  have hi:i < s.length:=by omega
  have hil:(bk s i).length≤s.length:=uF s (ii s i)
  have hlen:=hI.len
  rw[py,aF (by omega),jQ (K3 hi),bD (nn _) (by omega),Int.toNat_natCast,kH (by omega) (by omega)]
  by_cases ho:out.getD i false=true
  ·rw[ho,if_neg (by decide)]
   refine HD IH j (i+1) more out (by omega) hI h1 h2 (fun hm k hk hf => ?_)
   by_cases e:k=i
   ·rw[e,ho] at hf
    cases hf
   ·exact h3 hm k (by omega) hf
  ·have ho:out.getD i false=false:=by simpa using ho
   rw[ho,if_pos (by decide),XY (by omega) (fun k hk=>by rw[hI.len]; exact ij hk),Option.bind_some]
   dsimp only
   by_cases ha:((bk s i).any fun k=>out.getD k false)=true
   ·have hcs:=rK out i (by omega) ho
    rw[if_pos ha,bD (nn _) (by omega)]
    refine HD IH j (i+1) true (out.set i true) (by omega) ⟨by rw[List.length_set]; exact hI.len,fun k hk hf => ?_,fun k hk hb => ?_⟩ (by omega) (fun _=>by omega) (fun hm=>by cases hm)
    ·rw[mU _ _ _ (by omega)] at hf
     by_cases e:k=i
     ·rw[e]
      obtain⟨l,hl1,hl2⟩:=List.any_eq_true.1 ha
      exact .step hl1 (hI.snd l (ij hl1) hl2)
     ·rw[if_neg e] at hf
      exact hI.snd k hk hf
    ·rw[mU _ _ _ (by omega)]
     split
     ·rfl
     ·exact hI.bas k hk hb
   ·rw[if_neg ha]
    refine HD IH j (i+1) more out (by omega) hI h1 h2 (fun hm k hk hf l hl => ?_)
    by_cases e:k=i
    ·rw[e] at hl
     rw[Bool.eq_false_iff]
     intro hx
     exact ha (List.any_eq_true.2 ⟨l,hl,hx⟩)
    ·exact h3 hm k (by omega) hf l hl
theorem UN : ∀(m:Nat) (out:List Bool),Sq s refs out→out.count false < m→fW true s (gF s) (gL s) out=some (((List.range s.length).map (bW s refs),()),())
 | 0,out,_,h=>by omega
 | m+1,out,hI,h=>by
  rw[qy,if_pos rfl,YR]
  exact HD hs (m:=m) (fun o h1 h2=>UN m o h1 h2) s.length 0 false out (by omega) hI (by omega) (fun hm=>by cases hm) (fun _ k hk=>by omega)
include hr
theorem UO : ∀(ys pre:List ae) (o:List Bool),s=pre++ys→o.length=ys.length →
  eK refs s (s.length:Int) (pre.length:Int) s (gF s) (gL s) (((List.range pre.length).map (gB s refs))++o)=fW true s (gF s) (gL s) ((List.range s.length).map (gB s refs))
 | [],pre,o,h,ho=>by
  have e:pre=s:=by rw[h]; simp
  rw[qw,ax (bw h),List.eq_nil_of_length_eq_zero ho,List.append_nil,e]
 | y :: ys,pre,o,h,ho=>by
  have hn:=aX hs
  have hlen:s.length=pre.length+(ys.length+1):=by rw[h]; simp
  cases o with
  | nil=>cases ho
  | cons z o =>
   have hi:pre.length < s.length:=by omega
   have e0:((List.range pre.length).map (gB s refs)).length=pre.length:=by rw[List.length_map,List.length_range]
   have hil:(pre.length:Int) < ((((List.range pre.length).map (gB s refs))++z :: o).length:Int):=by simp only[List.length_append,List.length_cons,List.length_map,List.length_range]; omega
   have hfl:=IG (cj hs pre.length)
   have har:(ii s pre.length).length≤60:=DM (cj hs pre.length)
   have ih:=UO ys (pre++[y]) o (av h) (by simpa using ho)
   have e1 : ∀ b,b=gB s refs pre.length→List.set (((List.range pre.length).map (gB s refs))++z :: o) (Int.toNat (pre.length:Int)) b=((List.range (pre++[y]).length).map (gB s refs))++o:=by
    rintro _ rfl
    have:=LJ (l:=(List.range pre.length).map (gB s refs)) (r:=o) (y:=z) (z:=gB s refs pre.length)
    rw[e0] at this
    rw[this,List.length_append,List.length_singleton,List.range_succ,List.map_append,List.append_assoc,List.map_singleton]
    rfl
   rw[qw,aF (bH h),bC h,jQ (Sm hi),UG hfl,Option.bind_some,XQ (by omega),Option.bind_some]
   dsimp only
   have hb:gB s refs pre.length=(decide (y.1∈refs) || refs.any fun r=>(ii s pre.length).any fun a=>dG a r):=by
    unfold gB
    rw[Hx h]
   by_cases c:y.1∈refs
   ·rw[decide_eq_true c,if_pos rfl,bD (nn _) hil,aO h (by omega),e1 true (by rw[hb,decide_eq_true c]; rfl)]
    exact ih
   ·rw[decide_eq_false c,if_neg (by decide)]
    show((cz refs (ii s pre.length)).bind fun z3=>_)=_
    rw[XX (by omega) (by omega),Option.bind_some,bD (nn _) hil,aO h (by omega)]
    dsimp only
    rw[e1 _ (by rw[hb,decide_eq_false c,Bool.false_or])]
    exact ih
theorem HE:nj (gr s) refs=some (((List.range s.length).map (bW s refs),()),()):=by
 have hn:=aX hs
 rw[DS]
 show(D1 (s.length:Int) 1 false fun y1=>(eK refs s (s.length:Int) 0 s (gF s) (gL s) y1))=_
 rw[B5 (by omega)]
 have h:=UO hs hr s [] (List.replicate s.length false) rfl (by simp)
 have h:eK refs s (s.length:Int) 0 s (gF s) (gL s) (List.replicate s.length false)=_:=h
 rw[h]
 have eg : ∀ k,k < s.length→((List.range s.length).map (gB s refs)).getD k false=gB s refs k:=by
  intro k hk
  rw[List.getD_eq_getElem?_getD,List.getElem?_map,List.getElem?_range hk]
  rfl
 refine UN hs (((List.range s.length).map (gB s refs)).count false+1) _ ⟨by simp,fun k hk hf => ?_,fun k hk hb => ?_⟩ (by omega)
 ·rw[eg k hk] at hf
  exact .base hf
 ·rw[eg k hk]
  exact hb
end
section
variable {s:List ae} (hs:aW s=true)
include hs
def CQ (ar:List aM) (set:List al):Bool:=ar.any fun a=>set.any fun r=>dG a r
theorem NQ {more:Bool} {i k:Int} {ar:List aM} {set:List al} (hl:set.length≤1000000) {a:aM} (h0:0≤k) (ha:ar[k.toNat]? = some a) : ∀(ys pre:List al) (w:Bool),set=pre++ys →
  kC s more i w k (pre.length:Int) set ar=iJ s more i (w || ys.any fun r=>dG a r) (IntKind.i64.wrap (k+1)) set ar
 | [],pre,w,h=>by
  rw[tJ,ax (bw h),List.any_nil,Bool.or_false]
 | y :: ys,pre,w,h=>by
  have hk:=(List.getElem?_eq_some_iff.1 ha).1
  have hga:List.getD ar k.toNat bG.dflt=a:=by
   rw[List.getD_eq_getElem?_getD,ha]
   rfl
  have hgy:List.getD set (Int.toNat (pre.length:Int)) am.dflt=y:=by rw[h]; exact uz
  rw[tJ,aF (bH h),aO h (by omega),NQ hl h0 ha ys _ true (av h),qr h,bD h0 (by omega),hga,hgy,vA,Option.bind_some]
  dsimp only
  rw[NQ hl h0 ha ys _ (dG a y) (av h),List.any_cons]
  cases w with
  | true=>rw[if_pos rfl]; simp only[Bool.true_or]
  | false=>rw[if_neg (by decide)]; simp only[Bool.false_or]
theorem UP {more:Bool} {i:Nat} (hi:i < s.length) {ar:List aM} (hal:ar.length≤1000000) {set:List al} (hl:set.length≤1000000) : ∀(ys pre:List aM) (w:Bool),ar=pre++ys →
  iJ s more (i:Int) w (pre.length:Int) set ar=if(w || CQ ys set)=true then ga s true ((i+1:Nat):Int) (set++[au s i]) else ga s more ((i+1:Nat):Int) set
 | [],pre,w,h=>by
  have hn:=aX hs
  have hw:IntKind.i64.wrap ((i:Int)+1)=((i+1:Nat):Int):=kH (by omega) (by omega)
  have e:CQ [] set=false:=rfl
  rw[tI,ax (bw h),e,Bool.or_false,jQ (nE (d:=ap.dflt) hi),bp (by simp only[List.length_singleton]; omega),hw]
  rfl
 | y :: ys,pre,w,h=>by
  have hga:ar[((pre.length:Nat):Int).toNat]? = some y:=by
   rw[h]
   simp
  have e:CQ (y :: ys) set=((set.any fun r=>dG y r) || CQ ys set):=rfl
  have h15:=NQ hs (more:=more) (i:=(i:Int)) hl (nn pre.length) hga set [] w rfl
  rw[tI,aF (bH h)]
  refine h15.trans ?_
  rw[aO h (by omega),UP hi hal hl ys _ _ (av h),e,Bool.or_assoc]
variable {refs:List al}
def qM (s:List ae) (set:List al):Nat:=((List.range s.length).filter fun k => !decide (au s k∈set)).length
omit hs in
theorem WE {set:List al} {i:Nat} (hi:i < s.length) (h:au s i ∉ set):qM s (set++[au s i]) < qM s set:=by
 unfold qM
 refine v7 (fun k hk h => ?_) ⟨i,List.mem_range.2 hi,by simpa using h,by simp⟩
 simp only[List.mem_append,List.mem_singleton,Bool.not_eq_true',decide_eq_false_iff_not,not_or] at h ⊢
 exact h.1
omit hs in
theorem WF (set:List al):qM s set≤s.length:=by
 unfold qM
 have:=List.length_filter_le (fun k => !decide (au s k∈set)) (List.range s.length)
 rw[List.length_range] at this
 exact this
structure Ss (s:List ae) (refs set:List al):Prop where
 ref : ∀ r∈refs,r∈set
 snd : ∀ r∈set,r∈refs ∨ ∃ k,k < s.length∧au s k=r∧xj s refs k
 len:set.length+qM s set≤1000
theorem UQ {set:List al} (hI:Ss s refs set) (hc : ∀ k,k < s.length→au s k ∉ set→CQ (ii s k) set=false) : ∀ k,k < s.length→(au s k∈set↔xj s refs k):=by
 have hit : ∀ k r,k < s.length→r∈set→((ii s k).any fun a=>dG a r)=true→au s k∈set:=by
  intro k r hk hr ha
  refine Classical.byContradiction fun hn => ?_
  have h1:=hc k hk hn
  obtain⟨a,h2,h3⟩:=List.any_eq_true.1 ha
  have h4:CQ (ii s k) set=true:=List.any_eq_true.2 ⟨a,h2,List.any_eq_true.2 ⟨r,hr,h3⟩⟩
  rw[h4] at h1
  cases h1
 have key : ∀ k,xj s refs k→k < s.length→au s k∈set:=by
  intro k h
  induction h with
  | base h =>
   intro hk
   unfold gB at h
   rw[Bool.or_eq_true,decide_eq_true_eq] at h
   rcases h with h | h
   ·exact hI.ref _ h
   ·obtain⟨r,h1,h2⟩:=List.any_eq_true.1 h
    exact hit _ r hk (hI.ref r h1) h2
  | step h t ih=>exact fun hk=>hit _ _ hk (ih (ij h)) (jz.1 h).2
 intro k hk
 refine⟨fun h => ?_,fun h=>key k h hk⟩
 rcases hI.snd _ h with h | ⟨j,h1,h2,h3⟩
 ·exact .base (by
   unfold gB
   rw[decide_eq_true h]
   rfl)
 ·rw[←rL (bP hs) h1 hk h2]
  exact h3
theorem NR {set:List al} (hl:set.length≤1000000) : ∀(ys pre:List ae) (acc:List al),s=pre++ys→acc.length≤pre.length→iI s (pre.length:Int) set acc=some ((acc++(ys.filter fun c=>decide (c.1∈set)).map (·.1),()),())
 | [],pre,acc,h,ha=>by
  rw[tH,ax (bw h)]
  simp
 | y :: ys,pre,acc,h,ha=>by
  have hn:=aX hs
  have hlen:s.length=pre.length+(ys.length+1):=by rw[h]; simp
  rw[tH,aF (bH h)]
  simp only[bC h,tc _ (show set.length≤1000000000 by omega),Option.bind_some]
  rw[aO h (by omega)]
  by_cases e:y.1∈set
  ·rw[decide_eq_true e,if_pos rfl,bp (by simp only[List.length_singleton]; omega),NR hl ys _ _ (av h) (by simp only[List.length_append,List.length_singleton]; omega),List.filter_cons_of_pos (by simp[e])]
   simp
  ·rw[decide_eq_false e,if_neg (by decide),NR hl ys _ _ (av h) (by simp only[List.length_append,List.length_singleton]; omega),List.filter_cons_of_neg (by simp[e])]
theorem YT {set:List al} (hl:set.length≤1000000) (h : ∀ k,k < s.length→(au s k∈set↔xj s refs k)):iI s 0 set []=some ((((List.range s.length).filter (bW s refs)).map (au s),()),()):=by
 have h0:=NR hs hl s [] [] rfl (Nat.le_refl _)
 have key : ∀ t:List ae,(List.range s.length).map (fun i=>s.getD i ap.dflt)=t→(t.filter fun c=>decide (c.1∈set)).map (·.1)=((List.range s.length).filter fun k=>decide (au s k∈set)).map (au s):=by
  rintro _ rfl
  rw[List.filter_map,List.map_map]
  rfl
 rw[key s (xi s _),List.nil_append] at h0
 refine h0.trans ?_
 have e:((List.range s.length).filter fun k=>decide (au s k∈set))=(List.range s.length).filter (bW s refs):=by
  refine List.filter_congr fun k hk => ?_
  rw[Bool.eq_iff_iff,decide_eq_true_eq,FF]
  exact h k (List.mem_range.1 hk)
 rw[e]
theorem K5 {m:Nat} (IH : ∀ set,Ss s refs set→qM s set < m→lq s true set=some ((((List.range s.length).filter (bW s refs)).map (au s),()),())) : ∀(j i:Nat) (more:Bool) (set:List al),i+j=s.length→Ss s refs set→qM s set≤m→(more=true→qM s set < m)→(more=false → ∀ k,k < i→au s k ∉ set→CQ (ii s k) set=false) →
  ga s more (i:Int) set=some ((((List.range s.length).filter (bW s refs)).map (au s),()),())
 | 0,i,more,set,h,hI,h1,h2,h3=>by
  have hl:=hI.len
  rw[vu,ax (by omega)]
  cases more with
  | true=>exact IH set hI (h2 rfl)
  | false =>
   rw[vr,if_neg (by decide)]
   exact YT hs (by omega) (UQ hs hI fun k hk=>h3 rfl k (by omega))
 | j+1,i,more,set,h,hI,h1,h2,h3=>by
  have hn:=aX hs
  have hi:i < s.length:=by omega
  have hl:=hI.len
  have hw:IntKind.i64.wrap ((i:Int)+1)=((i+1:Nat):Int):=kH (by omega) (by omega)
  have har:(ii s i).length≤60:=DM (cj hs i)
  have hix : ∀ {β:Type} (F:ae→Option β),ix s (i:Int) ap.dflt F=F (s.getD i ap.dflt):=fun F=>jQ (nE hi)
  rw[vu,aF (by omega),hix,hix,tc _ (by omega),Option.bind_some,hw]
  show(if decide (au s i∈set)=true then _ else((u7 (bS s i)).bind fun z2=>(iJ s more (i:Int) false 0 set z2.1.1)))=_
  by_cases e:au s i∈set
  ·rw[decide_eq_true e,if_pos rfl]
   refine K5 IH j (i+1) more set (by omega) hI h1 h2 (fun hm k hk hf => ?_)
   by_cases ek:k=i
   ·rw[ek] at hf
    exact absurd e hf
   ·exact h3 hm k (by omega) hf
  ·rw[decide_eq_false e,if_neg (by decide),EG (cj hs i),Option.bind_some]
   have h12:=UP hs (more:=more) hi (ar:=ii s i) (by omega) (set:=set) (by omega) (ii s i) [] false rfl
   refine Eq.trans h12 ?_
   rw[Bool.false_or]
   by_cases hh:CQ (ii s i) set=true
   ·have hlt:=WE hi e
    rw[if_pos hh]
    refine K5 IH j (i+1) true (set++[au s i]) (by omega) ⟨fun r hr=>List.mem_append_left _ (hI.ref r hr),fun r hr => ?_,by rw[List.length_append,List.length_singleton]; omega⟩ (by omega) (fun _=>by omega) (fun hm=>by cases hm)
    rcases List.mem_append.1 hr with hr | hr
    ·exact hI.snd r hr
    ·refine .inr ⟨i,hi,(List.mem_singleton.1 hr).symm,?_⟩
     obtain⟨a,h4,h5⟩:=List.any_eq_true.1 hh
     obtain⟨q,h6,h7⟩:=List.any_eq_true.1 h5
     have ha:((ii s i).any fun a=>dG a q)=true:=List.any_eq_true.2 ⟨a,h4,h7⟩
     rcases hI.snd q h6 with h8 | ⟨k,h8,h9,h10⟩
     ·refine .base ?_
      unfold gB
      rw[Bool.or_eq_true]
      exact .inr (List.any_eq_true.2 ⟨q,h8,ha⟩)
     ·refine .step (k:=k) (jz.2 ⟨h8,?_⟩) h10
      rw[h9]
      exact ha
   ·rw[if_neg hh]
    refine K5 IH j (i+1) more set (by omega) hI h1 h2 (fun hm k hk hf => ?_)
    by_cases ek:k=i
    ·rw[ek]
     simpa using hh
    ·exact h3 hm k (by omega) hf
theorem W7 : ∀(m:Nat) (set:List al),Ss s refs set→qM s set < m→lq s true set=some ((((List.range s.length).filter (bW s refs)).map (au s),()),())
 | 0,set,_,h=>by omega
 | m+1,set,hI,h=>by
  rw[vr,if_pos rfl]
  exact K5 hs (m:=m) (fun o h1 h2=>W7 m o h1 h2) s.length 0 false set (by omega) hI (by omega) (fun hm=>by cases hm) (fun _ k hk=>by omega)
theorem EK (hr:refs.length≤120):tZ s refs=some ((((List.range s.length).filter (bW s refs)).map (au s),()),()):=by
 have hn:=aX hs
 have hle:=WF (s:=s) refs
 rw[KL,bp (by simp only[List.length_nil]; omega),List.nil_append]
 exact W7 hs (qM s refs+1) refs ⟨fun r h=>h,fun r h => .inl h,by omega⟩ (by omega)
end
theorem Kh {s:List ae} {t t':Nat→Bool} {g g':Nat→ab} (ht : ∀ k,k < s.length→t k=t' k) (hg : ∀ k,k < s.length→t k=true→g k=g' k) : ∀(n k:Nat),k < s.length→lT s t g n k=lT s t' g' n k
 | 0,k,hk=>rfl
 | n+1,k,hk=>by
  unfold lT
  rw[←ht k hk]
  by_cases h:t k=true
  ·rw[if_pos h,if_pos h,hg k hk h]
  ·rw[if_neg h,if_neg h,tf fun j hj=>Kh ht hg n j hj]
theorem Ki {s:List ae} {t t':Nat→Bool} {g g':Nat→ab} (ht : ∀ k,k < s.length→t k=t' k) (hg : ∀ k,k < s.length→t k=true→g k=g' k) {k:Nat} (hk:k < s.length):dd s t g k=dd s t' g' k:=Kh ht hg _ k hk
noncomputable def e8 (s:List ae) (k:Nat):ab:=dd s (fun _=>false) (fun _=>v0) k
noncomputable def gQ (s:List ae):List ac:=if aW s=true then aB s (e8 s) else []
noncomputable def WG (s:List ae) (old:List ac) (ch:List al) (k:Nat):ab:=dd s (fun k => !bW s ch k) (fun k=>dt old (au s k)) k
noncomputable def vV (s:List ae) (old:List ac) (ch:List al):List ac:=if aW s=true∧fU old=true∧ch.length≤120 then aB s (WG s old ch) else []
theorem Kj {α:Type} (n k:Nat) (d:α):(List.replicate n d).getD k d=d:=by
 rw[List.getD_eq_getElem?_getD,List.getElem?_replicate]
 split <;> rfl
section
variable {s:List ae} (hs:aW s=true)
include hs
theorem lO : ∀ c∈s,c.2.1.size≤9223372036854775807:=fun c hc=>Nat.le_trans (mT hs c hc) (by decide)
theorem HF:u6 s=some ((aB s (e8 s),()),()):=by
 have hn:=aX hs
 rw[GR,qL (by omega) (lO hs),Option.bind_some,B5 (by omega),B5 (by omega)]
 have e:=EJ (told:=fun _=>false) (given:=fun _=>v0) hs (td:=List.replicate s.length false) (gv:=List.replicate s.length ai.dflt) (by simp) (by simp) (fun v hv=>by
  rw[List.eq_of_mem_replicate hv]
  exact ML) (fun k _=>(Kj _ _ _).symm) (fun k _=>(Kj _ _ (v0:ab)).symm)
 rw[e]
 rfl
theorem NS : ∀(ys pre:List ae) (acc:List al),s=pre++ys→acc.length≤pre.length→wG s (pre.length:Int) acc=((yt s ([]:(List ac)) (acc++ys.map (·.1))).bind fun z1=>(some ((z1.1.1,()),(()))))
 | [],pre,acc,h,ha=>by
  rw[Ce,ax (bw h)]
  simp
 | y :: ys,pre,acc,h,ha=>by
  have hn:=aX hs
  have hlen:s.length=pre.length+(ys.length+1):=by rw[h]; simp
  rw[Ce,aF (bH h),bC h,bp (by simp only[List.length_singleton]; omega),aO h (by omega),NS ys _ _ (av h) (by simp only[List.length_append,List.length_singleton]; omega)]
  simp
theorem UR:L8 s=some ((aB s (e8 s),()),()):=by
 have hn:=aX hs
 have h0:=NS hs s [] [] rfl (Nat.le_refl _)
 have e:aB s (dd s (fun k => !decide (au s k∈s.map (·.1))) fun k=>dt [] (au s k))=aB s (e8 s):=by
  have hm : ∀ k,k < s.length→au s k∈s.map (·.1):=fun k hk=>List.mem_map.2 ⟨s.getD k ap.dflt,hY hk,rfl⟩
  refine tf fun k hk=>Ki (fun j hj=>by rw[decide_eq_true (hm j hj)]; rfl) (fun j hj h => ?_) hk
  rw[decide_eq_true (hm j hj)] at h
  cases h
 rw[TK]
 refine h0.trans ?_
 rw[List.nil_append,HC hs (known:=[]) (by simp) (fun c hc=>by cases hc) (by rw[List.length_map]; omega),e]
 rfl
end
section
variable {s:List ae} (h1 : ∀ c∈s,c.2.1.size≤9223372036854775807) (h2:s.length≤1000000000)
include h1 h2
theorem CR:wv s=some ((gQ s,()),()):=by
 rw[Mt,sq h1 h2,Option.bind_some]
 unfold gQ
 cases h:aW s with
 | false=>rfl
 | true =>
  dsimp only
  rw[if_neg (by decide),HF h]
  rfl
theorem CS:kN s=some ((gQ s,()),()):=by
 rw[Mx,lM h1 (by omega),Option.bind_some]
 unfold gQ
 cases h:aW s with
 | false=>rfl
 | true =>
  dsimp only
  rw[if_neg (by decide),UR h]
  rfl
variable {old:List ac} (h3 : ∀ c∈old,c.2.1.2.2.1.size≤9223372036854775807) (h4:old.length≤1000000) {ch:List al} (h5:ch.length≤1000000000)
include h3 h4 h5
theorem FH:jt s old ch=some ((vV s old ch,()),()):=by
 rw[Fe,lM h1 (by omega),Option.bind_some,vx (by omega) h3]
 unfold vV
 cases h:aW s with
 | false=>simp
 | true =>
  dsimp only
  rw[if_neg (by decide),Option.bind_some]
  cases hv:fU old with
  | false=>simp
  | true =>
   dsimp only
   rw[if_neg (by decide)]
   by_cases hc:ch.length≤120
   ·have hn:=aX h
    have hfl:(((List.range s.length).filter (bW s ch)).map (au s)).length≤120:=by
     rw[List.length_map]
     have:=List.length_filter_le (bW s ch) (List.range s.length)
     rw[List.length_range] at this
     omega
    rw[ax (by omega),if_pos ⟨rfl,rfl,hc⟩,EK h hc,Option.bind_some]
    dsimp only
    rw[HC h (by omega) (iw hv) (by omega)]
    dsimp only[Option.bind_some]
    congr 3
    refine tf fun k hk=>Ki (fun j hj => ?_) (fun j hj _=>rfl) hk
    congr 1
    rw[Bool.eq_iff_iff,decide_eq_true_eq]
    have:=Hy (bP h) (k:=j) (t:=(List.range s.length).filter (bW s ch)) hj (fun i hi=>List.mem_range.1 (List.mem_filter.1 hi).1)
    rw[this,List.mem_filter]
    exact⟨fun x=>x.2,fun x=>⟨List.mem_range.2 hj,x⟩⟩
   ·rw[aF (by omega),if_neg (fun x=>hc x.2.2)]
omit h1 h2 h3 h5 in
theorem US (hs:aW s=true) : ∀(ys pre:List ae) (gv:List ab) (o:List Bool),s=pre++ys→gv=(pre.map fun c=>dt old c.1)→o.length=ys.length →
  jb old s (s.length:Int) (pre.length:Int) s gv (((List.range pre.length).map fun k => !bW s ch k)++((List.range' pre.length ys.length).map (bW s ch))) (gF s) (gL s)=((lj (gr s) ((List.range s.length).map fun k => !bW s ch k) (s.map fun c=>dt old c.1)).bind fun z2=>(some ((z2.1.1,()),(()))))
 | [],pre,gv,o,h,hg,ho=>by
  have e:pre=s:=by rw[h]; simp
  rw[qX,ax (bw h),hg]
  simp only[List.length_nil,List.range'_zero,List.map_nil,List.append_nil]
  rw[e]
  rfl
 | y :: ys,pre,gv,o,h,hg,ho=>by
  have hn:=aX hs
  have hlen:s.length=pre.length+(ys.length+1):=by rw[h]; simp
  have hgl:gv.length=pre.length:=by rw[hg,List.length_map]
  have hrow:((List.range pre.length).map fun k => !bW s ch k)++((List.range' pre.length (y :: ys).length).map (bW s ch))=((List.range pre.length).map fun k => !bW s ch k)++(bW s ch pre.length :: ((List.range' (pre.length+1) ys.length).map (bW s ch))):=by
   rw[List.length_cons,List.range'_succ,List.map_cons]
  have e0:((List.range pre.length).map fun k => !bW s ch k).length=pre.length:=by rw[List.length_map,List.length_range]
  have hil:(pre.length:Int) < ((((List.range pre.length).map fun k => !bW s ch k)++(bW s ch pre.length :: ((List.range' (pre.length+1) ys.length).map (bW s ch)))).length:Int):=by
   simp only[List.length_append,List.length_cons,List.length_map,List.length_range]
   omega
  have hgd:List.getD (((List.range pre.length).map fun k => !bW s ch k)++(bW s ch pre.length :: ((List.range' (pre.length+1) ys.length).map (bW s ch)))) (Int.toNat (pre.length:Int)) false=bW s ch pre.length:=by
   have:=uz (l:=(List.range pre.length).map fun k => !bW s ch k) (r:=(List.range' (pre.length+1) ys.length).map (bW s ch)) (y:=bW s ch pre.length) (d:=false)
   rw[e0] at this
   exact this
  have hst:List.set (((List.range pre.length).map fun k => !bW s ch k)++(bW s ch pre.length :: ((List.range' (pre.length+1) ys.length).map (bW s ch)))) (Int.toNat (pre.length:Int)) (!bW s ch pre.length)=((List.range (pre++[y]).length).map fun k => !bW s ch k)++((List.range' (pre++[y]).length ys.length).map (bW s ch)):=by
   have:=LJ (l:=(List.range pre.length).map fun k => !bW s ch k) (r:=(List.range' (pre.length+1) ys.length).map (bW s ch)) (y:=bW s ch pre.length) (z := !bW s ch pre.length)
   rw[e0] at this
   rw[this,List.length_append,List.length_singleton,List.range_succ,List.map_append,List.append_assoc,List.map_singleton]
   rfl
  rw[hrow,qX,aF (bH h),bC h,bD (nn _) hil,bD (nn _) hil,Ar (xs:=old) (by omega),Option.bind_some,bp (by simp only[List.length_singleton]; omega),hgd,hst,aO h (by omega)]
  exact US hs ys (pre++[y]) _ (ys.map fun _=>true) (av h) (by rw[hg,List.map_append,List.map_singleton]) (by rw[List.length_map])
theorem FI:tr s old ch=some ((vV s old ch,()),()):=by
 rw[Fd,sq h1 h2,Option.bind_some,qD (by omega) h3]
 unfold vV
 cases h:aW s with
 | false=>simp
 | true =>
  dsimp only
  rw[if_neg (by decide),Option.bind_some]
  cases hv:fU old with
  | false=>simp
  | true =>
   dsimp only
   rw[if_neg (by decide)]
   by_cases hc:ch.length≤120
   ·have hn:=aX h
    rw[ax (by omega),if_pos ⟨rfl,rfl,hc⟩,qL (by omega) h1,Option.bind_some]
    dsimp only
    rw[HE h hc,Option.bind_some]
    have h6:=US (old:=old) h4 (ch:=ch) h s [] [] (s.map fun _=>true) rfl rfl (by simp)
    have er:(([]:List Bool)++((List.range' 0 s.length).map (bW s ch)))=(List.range s.length).map (bW s ch):=by rw[List.nil_append,List.range_eq_range']
    have h7:jb old s (s.length:Int) 0 s ([]:List ab) (([]:List Bool)++((List.range' 0 s.length).map (bW s ch))) (gF s) (gL s)=_:=h6
    rw[er] at h7
    refine Eq.trans h7 ?_
    have e:=EJ (told:=fun k => !bW s ch k) (given:=fun k=>dt old (au s k)) h (td:=(List.range s.length).map fun k => !bW s ch k) (gv:=s.map fun c=>dt old c.1) (by simp) (by simp) (fun v hv'=>by
     obtain⟨c,_,rfl⟩:=List.mem_map.1 hv'
     exact Au (iw hv)) (fun k hk=>by
     rw[List.getD_eq_getElem?_getD,List.getElem?_map,List.getElem?_range hk]
     rfl) (fun k hk=>by
     rw[List.getD_eq_getElem?_getD,List.getElem?_map,nE (d:=ap.dflt) hk]
     rfl)
    rw[e]
    rfl
   ·rw[aF (by omega),if_neg (fun x=>hc x.2.2)]
end
theorem NT {s:List ae} {i:Nat} (h:bI (bS s i)=none):bk s i=[]:=by
 unfold bk ii
 rw[h]
 exact List.filter_eq_nil_iff.2 fun k _=>by simp[cF]
section
variable {s:List ae} (hs:aW s=true)
include hs
theorem nG (i:Nat):e8 s i=match bI (bS s i) with
  | none=>(bb (lb (bS s i))).1
  | some f=>if pf s i=true then vE 5 else gh f (aB s (e8 s)):=by
 have h:=lN (told:=fun _=>false) (given:=fun _=>v0) (cj hs) i
 rw[if_neg (by decide)] at h
 refine Eq.trans h ?_
 cases hf:bI (bS s i) with
 | none=>rfl
 | some f =>
  dsimp only
  by_cases hr:dh (bk s) i i
  ·rw[if_pos hr,if_pos (fi.2 hr)]
  ·rw[if_neg hr,if_neg (fun x=>hr (fi.1 x))]
   rfl
theorem DP {i:Nat} (hi:i < s.length):ao (e8 s i)=true:=Qj hs (fun _ _=>ML) hi
theorem WH {told:Nat→Bool} {given:Nat→ab} (h : ∀ k,k < s.length→told k=true→given k=e8 s k) : ∀ k,k < s.length→dd s told given k=e8 s k:=by
 have key:=Xp (L:=bk s) (N:=List.range s.length) (V:=ab) DL (leaf:=fun i=>told i=true∨bI (bS s i)=none∨dh (bk s) i i) (step:=fun i F=>match bI (bS s i) with | none=>v0 | some f=>gh f (aB s F)) (fun i F G hk=>by
  cases hf:bI (bS s i) with
  | none=>rfl
  | some f=>exact uq (cj hs i) hf hk) (F:=dd s told given) (G:=e8 s) (fun i hi hl=>by
  have hi:=List.mem_range.1 hi
  rw[lN (cj hs) i]
  by_cases ht:told i=true
  ·rw[if_pos ht]
   exact h i hi ht
  ·rw[if_neg ht,nG hs i]
   cases hf:bI (bS s i) with
   | none=>rfl
   | some f =>
    have hr:dh (bk s) i i:=by
     rcases hl with e | e | e
     ·exact absurd e ht
     ·rw[hf] at e
      cases e
     ·exact e
    dsimp only
    rw[if_pos hr,if_pos (fi.2 hr)]) (fun i hi hl=>by
  have ht : ¬told i=true:=fun e=>hl (.inl e)
  have hr : ¬dh (bk s) i i:=fun e=>hl (.inr (.inr e))
  refine⟨hr,?_,?_⟩
  ·rw[lN (cj hs) i,if_neg ht]
   cases hf:bI (bS s i) with
   | none=>exact absurd (.inr (.inl hf)) hl
   | some f =>
    dsimp only
    rw[if_neg hr]
  ·rw[nG hs i]
   cases hf:bI (bS s i) with
   | none=>exact absurd (.inr (.inl hf)) hl
   | some f =>
    dsimp only
    rw[if_neg (fun x=>hr (fi.1 x))])
 exact fun k hk=>key k (List.mem_range.2 hk)
theorem UT {t:List ae} (ht:aW t=true) {U:Nat→Prop} {m:Nat→Nat} (hU : ∀ i,U i→i < s.length) (hcl : ∀ i,U i → ∀ k∈bk s i,U k) (inj : ∀ i j,U i→U j→m i=m j→i=j)
  (hnone : ∀ i,U i→bI (bS s i)=none→bI (bS t (m i))=none∧(bb (lb (bS t (m i)))).1=(bb (lb (bS s i))).1)
  (hsome : ∀ i f,U i→bI (bS s i)=some f → ∃ f',bI (bS t (m i))=some f'∧(∀ k∈bk s i,m k∈bk t (m i))∧(∀ j∈bk t (m i),∃ k∈bk s i,m k=j) ∧ ∀ F G:Nat→ab,(∀ k∈bk s i,F k=G (m k))→gh f (aB s F)=gh f' (aB t G)) :
  ∀ i,U i→e8 s i=e8 t (m i):=by
 have c1 : ∀ i,U i → ∀ k∈bk s i,m k∈bk t (m i):=by
  intro i hi k hk
  cases hf:bI (bS s i) with
  | none=>rw[NT hf] at hk; cases hk
  | some f=>exact(hsome i f hi hf).choose_spec.2.1 k hk
 have c2 : ∀ i,U i → ∀ j∈bk t (m i),∃ k∈bk s i,m k=j:=by
  intro i hi j hj
  cases hf:bI (bS s i) with
  | none=>rw[NT (hnone i hi hf).1] at hj; cases hj
  | some f=>exact(hsome i f hi hf).choose_spec.2.2.1 j hj
 have r1 : ∀ i k,dh (bk s) i k→U i→U k∧dh (bk t) (m i) (m k):=by
  intro i k h
  induction h with
  | one e=>exact fun hi=>⟨hcl _ hi _ e,.one (c1 _ hi _ e)⟩
  | more _ e ih=>exact fun hi=>⟨hcl _ (ih hi).1 _ e,.more (ih hi).2 (c1 _ (ih hi).1 _ e)⟩
 have r2 : ∀ i j,dh (bk t) (m i) j→U i → ∃ k,dh (bk s) i k∧m k=j:=by
  intro i j h hi
  induction h with
  | one e =>
   obtain⟨k,hk,e⟩:=c2 i hi _ e
   exact⟨k,.one hk,e⟩
  | more _ e ih =>
   obtain⟨k,hk,e1⟩:=ih
   rw[←e1] at e
   obtain⟨l,hl,e2⟩:=c2 k (r1 i k hk hi).1 _ e
   exact⟨l,.more hk hl,e2⟩
 have rr : ∀ i,U i→pf s i=pf t (m i):=by
  intro i hi
  rw[Bool.eq_iff_iff,fi,fi]
  constructor
  ·exact fun h=>(r1 i i h hi).2
  ·intro h
   obtain⟨k,hk,e⟩:=r2 i _ h hi
   rw[inj k i (r1 i k hk hi).1 hi e] at hk
   exact hk
 have key : ∀(n:Nat) (i:Nat),U i→tw (bk s) (List.range s.length) i≤n→e8 s i=e8 t (m i):=by
  intro n
  induction n with
  | zero =>
   intro i hi hc
   rw[nG hs i,nG ht (m i)]
   cases hf:bI (bS s i) with
   | none =>
    obtain⟨a,b⟩:=hnone i hi hf
    rw[a]
    exact b.symm
   | some f =>
    obtain⟨f',a,_,_,b⟩:=hsome i f hi hf
    rw[a,rr i hi]
    dsimp only
    split
    ·rfl
    ·refine b _ _ fun k hk => ?_
     have:=Qg hk
     omega
  | succ n ih =>
   intro i hi hc
   rw[nG hs i,nG ht (m i)]
   cases hf:bI (bS s i) with
   | none =>
    obtain⟨a,b⟩:=hnone i hi hf
    rw[a]
    exact b.symm
   | some f =>
    obtain⟨f',a,_,_,b⟩:=hsome i f hi hf
    rw[a,rr i hi]
    dsimp only
    split
    ·rfl
    ·refine b _ _ fun k hk => ?_
     have hUk:=hcl i hi k hk
     by_cases hrk:dh (bk s) k k
     ·rw[nG hs k,nG ht (m k)]
      cases hfk:bI (bS s k) with
      | none =>
       obtain⟨a,b⟩:=hnone k hUk hfk
       rw[a]
       exact b.symm
      | some g =>
       obtain⟨g',a,_,_,b⟩:=hsome k g hUk hfk
       rw[a,←rr k hUk,fi.2 hrk]
       rfl
     ·have:=yW (N:=List.range s.length) DL hk hrk
      exact ih k hUk (by omega)
 exact fun i hi=>key _ i hi (Nat.le_refl _)
end
theorem XZ {x:ByteArray} (h:ji x=true) (h61:(lb x).head? = some 61) : ∃ f,bI x=some f∧fe (ba ((lb x).drop 1))=(f,true):=by
 have hsz:=Hu h
 have hw:(lb x).length≤9223372036854775807:=by rw[jy]; omega
 obtain⟨h1,h2,h3⟩:=CH.1 h
 have hb:=DI hw
 rw[eO] at hb
 have h4:(hO (lb x)).2=true:=by
  rw[hb] at h1
  exact h1
 have hne:lb x≠[]:=by
  intro e
  rw[e] at h61
  cases h61
 have hp:((lb x).all lA && decide ((lb x).length≤200))=true:=by
  cases hp:((lb x).all lA && decide ((lb x).length≤200)) with
  | true=>rfl
  | false =>
   have e:hO (lb x)=([],false):=by
    unfold hO
    rw[if_neg hne,hp,if_pos rfl]
   rw[e] at h4
   cases h4
 have e:=DJ hne hp
 rw[if_pos h61] at e
 dsimp only at e
 have hr:(fe (ba ((lb x).drop 1))).2=true:=by
  by_cases hr:(fe (ba ((lb x).drop 1))).2=true∧gY (fe (ba ((lb x).drop 1))).1≠[]∧(gY (fe (ba ((lb x).drop 1))).1).length < 200
  ·exact hr.1
  ·rw[if_neg hr] at e
   rw[e] at h4
   cases h4
 refine⟨(fe (ba ((lb x).drop 1))).1,?_,Prod.ext rfl hr⟩
 unfold bI
 rw[if_pos ⟨h61,hr⟩]
theorem Kk {s:List ae} (h:jn s) (F:Nat→ab) {i:Nat} (hi:i < s.length):dt (aB s F) (au s i)=F i:=by
 have key : ∀(l:List ac),(l.Pairwise fun a b=>ci a.1 b.1=true) → ∀ c∈l,dt l c.1=c.2.1:=by
  intro l
  induction l with
  | nil=>intro _ c hc; cases hc
  | cons d l ih =>
   intro hp c hc
   have hp:=List.pairwise_cons.1 hp
   unfold dt
   rcases List.mem_cons.1 hc with rfl | hc
   ·rw[if_pos rfl]
   ·rw[if_neg (rJ (hp.1 c hc)),ih hp.2 c hc]
 have:=key (aB s F) (IL h) _ (List.mem_of_getElem? (vS hi))
 exact this
theorem NU {l:List ac} (h:fU l=true):l.length≤120:=by
 unfold fU at h
 simp only[Bool.and_eq_true,decide_eq_true_eq] at h
 omega
theorem HG {l:List ac} (h:fU l=true) (r:al):yu l r=some ((dt l r,()),()):=by
 have hl:=NU h
 have hv:=iw h
 rw[Rs,qD (by omega) (fun c hc=>Nat.le_trans (dj (hv c hc)) (by decide)),h,Option.bind_some]
 dsimp only
 rw[if_neg (by decide),Ar (xs:=l) (by omega)]
 rfl
def ge (t:List ae) (r:al):Nat:=t.findIdx fun c=>decide (c.1=r)
theorem Ql {t:List ae} {r:al} (h : ∃ c∈t,c.1=r):ge t r < t.length∧au t (ge t r)=r:=by
 have h1:ge t r < t.length:=List.findIdx_lt_length_of_exists (by
  obtain⟨c,hc,e⟩:=h
  exact⟨c,hc,decide_eq_true e⟩)
 refine⟨h1,?_⟩
 have h2:=List.findIdx_getElem (xs:=t) (p:=fun c:ae=>decide (c.1=r)) (w:=h1)
 rw[II h1]
 exact of_decide_eq_true h2
theorem Qm {t:List ae} (ht:jn t) {i:Nat} (hi:i < t.length):ge t (au t i)=i:=by
 obtain⟨h1,h2⟩:=Ql (t:=t) (r:=au t i) ⟨t.getD i ap.dflt,hY hi,rfl⟩
 exact rL ht h1 hi h2
theorem zn {t:List ae} (ht:aW t=true) {r:al} (h:dk r t≠eS):(ge t r < t.length∧au t (ge t r)=r)∧bS t (ge t r)=dk r t:=by
 rcases FB (q:=r) (bP ht) with⟨c,hc,e1,e2⟩ | ⟨_,e⟩
 ·have h1:=Ql (t:=t) (r:=r) ⟨c,hc,e1⟩
  refine⟨h1,?_⟩
  have:=DN (bP ht) h1.1
  rw[h1.2] at this
  exact this.symm
 ·exact absurd e h
theorem HH {s:List ae} (hs:aW s=true) {i:Nat} (hi:i < s.length):dk (au s i) s=bS s i∧bS s i≠eS:=⟨DN (bP hs) hi,Hv hs _ (hY hi)⟩
section
variable {s t:List ae} (hs:aW s=true) (ht:aW t=true)
include hs ht
theorem UU {ar:List aM} {F G:Nat→ab} (hag : ∀ r,(ar.any fun a=>dG a r)=true→dk r s=dk r t) (h : ∀ k∈qK s ar,F k=G (ge t (au s k))):jm ar (aB s F)=jm ar (aB t G):=by
 rw[vO,vO]
 have pw : ∀(u:List ae) (hu:aW u=true) (H:Nat→ab),((qK u ar).map fun k=>((au u k,H k,()):ac)).Pairwise fun a b=>ci a.1 b.1=true:=by
  intro u hu H
  rw[←vO]
  exact List.Pairwise.sublist List.filter_sublist (IL (bP hu))
 refine NB (lt:=fun a b:ac=>ci a.1 b.1) (fun x=>vK _) (fun x y z h k=>ow h k) (pw s hs F) (pw t ht G) fun c => ?_
 rw[List.mem_map,List.mem_map]
 constructor
 ·rintro⟨k,hk,rfl⟩
  obtain⟨k1,k2⟩:=jz.1 hk
  have e:=HH hs k1
  have e1:=hag _ k2
  obtain⟨⟨q1,q2⟩,q3⟩:=zn ht (r:=au s k) (by rw[←e1,e.1]; exact e.2)
  refine⟨ge t (au s k),jz.2 ⟨q1,by rw[q2]; exact k2⟩,?_⟩
  rw[q2,h k hk]
 ·rintro⟨j,hj,rfl⟩
  obtain⟨k1,k2⟩:=jz.1 hj
  have e:=HH ht k1
  have e1:=hag _ k2
  obtain⟨⟨q1,q2⟩,q3⟩:=zn hs (r:=au t j) (by rw[e1,e.1]; exact e.2)
  have hm:ge s (au t j)∈qK s ar:=jz.2 ⟨q1,by rw[q2]; exact k2⟩
  refine⟨ge s (au t j),hm,?_⟩
  rw[h _ hm,q2,Qm (bP ht) k1]
theorem Su {U:Nat→Prop} (hU : ∀ i,U i→i < s.length) (hcl : ∀ i,U i → ∀ k∈bk s i,U k) (hat : ∀ i,U i→dk (au s i) s=dk (au s i) t) (har : ∀ i,U i → ∀ r,((ii s i).any fun a=>dG a r)=true→dk r s=dk r t) : ∀ i,U i→e8 s i=e8 t (ge t (au s i)):=by
 have hm : ∀ i,U i→(ge t (au s i) < t.length∧au t (ge t (au s i))=au s i)∧bS t (ge t (au s i))=bS s i:=by
  intro i hi
  have e:=HH hs (hU i hi)
  have e1:=hat i hi
  obtain⟨q1,q3⟩:=zn ht (r:=au s i) (by rw[←e1,e.1]; exact e.2)
  exact⟨q1,by rw[q3,←e1,e.1]⟩
 refine UT hs ht hU hcl (m:=fun i=>ge t (au s i)) (fun i j hi hj e => ?_) (fun i hi hf => ?_) (fun i f hi hf => ?_)
 ·have e:ge t (au s i)=ge t (au s j):=e
  have h1:=(hm i hi).1.2
  rw[e,(hm j hj).1.2] at h1
  exact(rL (bP hs) (hU j hj) (hU i hi) h1).symm
 ·show bI (bS t (ge t (au s i)))=none∧(bb (lb (bS t (ge t (au s i))))).1=_
  rw[(hm i hi).2]
  exact⟨hf,rfl⟩
 ·have ea:ii t (ge t (au s i))=ii s i:=by
   unfold ii
   rw[(hm i hi).2]
  refine⟨f,by show bI (bS t (ge t (au s i)))=some f; rw[(hm i hi).2]; exact hf,fun k hk => ?_,fun j hj => ?_,fun F G h => ?_⟩
  ·obtain⟨k1,k2⟩:=jz.1 hk
   have hk:=hm k (hcl i hi k hk)
   refine jz.2 ⟨hk.1.1,?_⟩
   show((ii t (ge t (au s i))).any fun a=>dG a (au t (ge t (au s k))))=true
   rw[ea,hk.1.2]
   exact k2
  ·obtain⟨k1,k2⟩:=jz.1 hj
   have k2:((ii t (ge t (au s i))).any fun a=>dG a (au t j))=true:=k2
   rw[ea] at k2
   have e:=HH ht k1
   have e1:=har i hi _ k2
   obtain⟨⟨q1,q2⟩,q3⟩:=zn hs (r:=au t j) (by rw[e1,e.1]; exact e.2)
   refine⟨ge s (au t j),jz.2 ⟨q1,by rw[q2]; exact k2⟩,?_⟩
   show ge t (au s (ge s (au t j)))=j
   rw[q2,Qm (bP ht) k1]
  ·refine CN (j8 hf (cj hs i)) ?_
   have har':cF f=ii s i:=by
    unfold ii
    rw[hf]
    rfl
   rw[har']
   exact UU hs ht (har i hi) h
end
section
variable {s t:List ae} (hs:aW s=true) (ht:aW t=true) {refs:List al} (hag : ∀ r,r ∉ refs→dk r t=dk r s)
include hs ht hag
theorem Kl {i:Nat} (hi:i < t.length) (hn:bW t refs i=false):dt (aB s (e8 s)) (au t i)=e8 t i:=by
 have hT : ∀ j,j < t.length ∧ ¬xj t refs j→au t j ∉ refs ∧ ∀ r,((ii t j).any fun a=>dG a r)=true→r ∉ refs:=by
  rintro j ⟨h1,h2⟩
  have hb:gB t refs j=false:=by
   rw[Bool.eq_false_iff]
   exact fun h=>h2 (.base h)
  unfold gB at hb
  rw[Bool.or_eq_false_iff,decide_eq_false_iff_not] at hb
  refine⟨hb.1,fun r hr hm => ?_⟩
  have:(refs.any fun r=>(ii t j).any fun a=>dG a r)=true:=List.any_eq_true.2 ⟨r,hm,hr⟩
  rw[hb.2] at this
  cases this
 have hni : ¬xj t refs i:=fun h=>by
  rw[FF.2 h] at hn
  cases hn
 have hmv:=Su ht hs (U:=fun j=>j < t.length ∧ ¬xj t refs j) (fun j h=>h.1) (fun j h k hk=>⟨ij hk,fun hh=>h.2 (.step hk hh)⟩) (fun j h=>hag _ (hT j h).1) (fun j h r hr=>hag _ ((hT j h).2 r hr)) i ⟨hi,hni⟩
 have e:=HH ht hi
 have e1:=hag _ (hT i ⟨hi,hni⟩).1
 obtain⟨⟨q1,q2⟩,q3⟩:=zn hs (r:=au t i) (by rw[←e1,e.1]; exact e.2)
 rw[hmv]
 conv=>lhs; rw[←q2]
 exact Kk (bP hs) _ q1
theorem WI (k:Nat) (hk:k < t.length):WG t (aB s (e8 s)) refs k=e8 t k:=by
 unfold WG
 refine WH ht (fun j hj h => ?_) k hk
 exact Kl hs ht hag hj (by simpa using h)
end
section
variable {ls:List (List ae)} (hls:ls.length≤10)
include hls
end
section
variable {a b:List ae} (ha:a.length≤2000000) (hb:b.length≤2000000)
include ha hb
end
section
variable {a b:List ae} (ha:a.length≤2000000) (hb:b.length≤2000000) (hsa : ∀ c∈a,c.2.1.size≤9223372036854775807) (hsb : ∀ c∈b,c.2.1.size≤9223372036854775807)
include ha hb hsa hsb
end
section
variable {o x y:List ae} (ho:o.length≤2000000) (hx:x.length≤2000000) (hy:y.length≤2000000)
include ho hx hy
end
section
variable {o x y:List ae} (ho:o.length≤2000000) (hx:x.length≤2000000) (hy:y.length≤2000000) (hso : ∀ c∈o,c.2.1.size≤9223372036854775807) (hsx : ∀ c∈x,c.2.1.size≤9223372036854775807) (hsy : ∀ c∈y,c.2.1.size≤9223372036854775807)
include ho hx hy hso hsx hsy
end
section
variable {c:List Int} (hc:EB c)
include hc
theorem NV {i:Int} (h2:0≤i) (h3:i≤(c.length:Int)):Ok (fun z=>(0≤z.1.1∧z.1.1≤255)∧Rd c z.2.1) (tW c i):=by
 have:=uC hc (s:=(c,i,())) ⟨rfl,h2,h3⟩
 rw[yz] at this
 rw[Ko]
 exact this
theorem UV {n i:Int} (h2:0≤i) (h3:i≤(c.length:Int)) (hn:1≤n):Ok (fun z=>(0≤z.1.1∧z.1.1 < n)∧Rd c z.2.1) (xo n c i):=by
 rw[H2]
 refine Ok.ite (fun _=>Ok.one ⟨⟨Int.le_refl _,by show(0:Int) < n; omega⟩,rfl,h2,h3⟩) fun _=>Ok.ite (fun _ => ?_) fun _ => ?_
 ·refine Ok.bnd (NV hc h2 h3) fun z hz=>Ok.nz (by omega) (Ok.one ⟨⟨Int.tmod_nonneg _ hz.1.1,Int.tmod_lt_of_pos _ (by omega)⟩,hz.2⟩)
 ·refine Ok.bnd (NV hc h2 h3) fun z hz=>Ok.bnd (uC hc hz.2) fun y hy => ?_
  have h1:=hz.1
  have h2:=hy.1
  rw[wr (n:=z.1.1*256) (by omega) (by omega),wr (by omega) (by omega)]
  exact Ok.nz (by omega) (Ok.one ⟨⟨Int.tmod_nonneg _ (by omega),Int.tmod_lt_of_pos _ (by omega)⟩,hy.2⟩)
theorem UW {n:Nat} {i:Int} (hn:n≤900) (h2:0≤i) (h3:i≤(c.length:Int)):Ok (fun z=>qJ z.1.1∧Rd c z.2.1) (n8 (n:Int) c i):=by
 rw[H5,wr (by omega) (by omega)]
 refine Ok.bnd (UV hc h2 h3 (by omega)) fun z hz => ?_
 rw[show z.1.1=(z.1.1.toNat:Int) by omega]
 exact CL hc _ (by omega) hz.2 ⟨Nat.zero_le _,fun c hc=>by cases hc⟩
end
def Zn (l:List Zm):Prop:=l.length≤8 ∧ ∀ c∈l,c.2.2.1.size≤6401
theorem Zn.sz {l:List Zm} (h:Zn l) : ∀ e∈l,e.2.2.1.size≤9223372036854775807:=fun e he=>Nat.le_trans (h.2 e he) (by decide)
section
variable {c:List Int} (hc:EB c)
include hc
theorem NW {β:Type} {Q:β→Prop} {n:Int} {f:(List ae×Unit)×aV×Unit→Option β} (h0:0≤n) (h1:n≤900) (k : ∀ z,qJ z.1.1→Rd c z.2.1→Ok Q (f z)):Ok Q ((Da c).bind fun z1=>(n8 n z1.1.1.1 z1.1.1.2.1).bind f):=by
 obtain⟨m,rfl⟩ : ∃ m:Nat,n=(m:Int):=⟨n.toNat,by omega⟩
 rw[QS,Option.bind_some]
 exact Ok.bnd (UW hc (by omega) (Int.le_refl _) (by show(0:Int)≤(c.length:Int); omega)) fun z hz=>k z hz.1 hz.2
theorem FJ:Ok (fun z=>qJ z.1.1) (tq c):=by
 rw[E8]
 exact NW hc (by decide) (by decide) fun z1 s1 r1=>Ok.one s1
end
end Go.Proofs.YtnodjiikdgmeaaaGreatDoor.Abs
