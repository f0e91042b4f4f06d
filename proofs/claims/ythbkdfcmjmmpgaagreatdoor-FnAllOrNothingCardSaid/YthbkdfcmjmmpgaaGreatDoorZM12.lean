/- Plain laws: rows in which nothing stands twice; areas that are looked at. -/
import Derived.Test.YthbkdfcmjmmpgaaGreatDoorZM11
import Derived.Test.YthbkdfcmjmmpgaaGreatDoorZM9
import Derived.Test.YthbkdfcmjmmpgaaGreatDoorZM10
import Derived.Test.YthbkdfcmjmmpgaaGreatDoorZM6
set_option linter.unusedVariables false
set_option linter.unusedSimpArgs false
set_option linter.unusedSectionVars false
open Bool renaming and_eq_true→ah_,eq_iff_iff→bw_,false_eq_true→aj_,false_or→ct_,or_eq_true→cx_
open ByteArray renaming size_append→fl_,toList→ag_
open Go.IntKind renaming i64→hb_,wrap→ha_
open Int renaming le_refl→cj_,toNat_natCast→bu_,toNat→ap_
open List renaming append_nil→bx_,foldl_cons→ek_,getD_eq_getElem?_getD→ao_,getD→au_,getElem?_append_left→ci_,getElem?_eq_none→cd_,getElem?_eq_some_iff→ax_,length_append→ae_,length_cons→ak_,length_nil→bi_,length_singleton→ac_,mem_append_left→cz_,mem_append_right→cq_,mem_append→bo_,mem_cons_of_mem→ar_,mem_cons→bb_,mem_flatMap→ff_,mem_singleton→bh_,nil_append→da_
open Nat renaming le_refl→aq_,le_trans→bn_
open Option renaming bind_some→ab_
open Option.some renaming injEq→bg_
open _root_ renaming ByteArray→aa_,absurd→bk_,beq_iff_eq→bt_,decide_eq_false→be_,decide_eq_true_eq→ai_,decide_eq_true→bd_,if_false→aw_,if_neg→ad_,if_pos→af_,if_true→ba_
namespace Go.Proofs.YthbkdfcmjmmpgaaGreatDoor.Abs
open Go
theorem Jn (a b:am):bk ay a b=decide (a=b):=by
 rw[bw_,ai_]
 exact km rfl
noncomputable def rF (s:List ae) (a:am):List am:=(s.filter fun c=>dK a c.1).flatMap fun c=>fy c.2.1
noncomputable def wV (a:am) (F:List am) (c:ae):List am:=if dK a c.1=true then aF F (fy c.2.1) else F
theorem AQ (a:am) : ∀(s:List ae) (F:List am),s.foldl (wV a) F=aF F (rF s a)
 | [],F=>rfl
 | c :: s,F=>by
  rw[ek_,AQ a s]
  unfold wV rF
  by_cases h:dK a c.1=true
  ·rw[af_ h,List.filter_cons_of_pos (p:=fun c:ae=>dK a c.1) h,List.flatMap_cons,jU]
  ·rw[ad_ h,List.filter_cons_of_neg (p:=fun c:ae=>dK a c.1) h]
noncomputable def vH (s:List ae):Nat→Nat→List am→List am
 | 0,_,F=>F
 | n+1,k,F=>match F[k]? with
  | none=>F
  | some a=>vH s n (k+1) (aF F (rF s a))
noncomputable def lP (s:List ae) (ar:List am):List am:=ar++s.flatMap fun c=>fy c.2.1
noncomputable def ni (s:List ae) (ar:List am):List am:=vH s (lP s ar).length 0 (aF [] ar)
theorem Pk {s:List ae} {ar:List am} {a x:am} (h:x∈rF s a):x∈lP s ar:=by
 unfold rF at h
 unfold lP
 obtain⟨c,h1,h2⟩:=ff_.1 h
 exact cq_ _ (ff_.2 ⟨c,(List.mem_filter.1 h1).1,h2⟩)
theorem YB {s:List ae} (hs : ∀ c∈s,c.2.1.size≤9223372036854775807):(s.flatMap fun c=>fy c.2.1).length≤s.length*60:=by
 induction s with
 | nil=>simp
 | cons c s ih =>
  have h1:=pE (hs c (by simp))
  have h2:=ih fun d hd=>hs d (ar_ _ hd)
  rw[List.flatMap_cons,ae_,ak_]
  omega
theorem uh {s:List ae} (hs:be s=true) {ar:List am} (ha:ar.length≤60):(lP s ar).length≤7260:=by
 have h1:=bE hs
 have h2:=YB (lF hs)
 unfold lP
 rw[ae_]
 omega
structure rG (s:List ae) (ar F:List am):Prop where
 nd:F.Nodup
 sub : ∀ x∈F,x∈lP s ar
theorem rG.len {s:List ae} {ar F:List am} (h:rG s ar F):F.length≤(lP s ar).length:=wT _ _ h.nd h.sub
theorem rG.add {s:List ae} {ar F ks:List am} (h:rG s ar F) (hk : ∀ x∈ks,x∈lP s ar):rG s ar (aF F ks):=⟨tV _ _ h.nd,fun x hx=>by
 rcases(k9 _ _ _).1 hx with e | e
 ·exact h.sub x e
 ·exact hk x e⟩
theorem rG.first (s:List ae) (ar:List am):rG s ar (aF [] ar):=⟨RQ _,fun x hx=>cz_ _ ((L3 _ _).1 hx)⟩
theorem AR {l:List am} {r:am} (hl:l.length≤1000000000):dZ l r=some ((decide (r∈l),()),()):=by
 have h:ft l (l.length:Int) 0 r.1 r.2.1=some ((mD (fun y=>bk ay r y) l 0,()),()):=vC (s:=l) (d:=ay.dflt) (p:=fun y=>bk ay r y) (P:=fun j=>ft l (l.length:Int) j r.1 r.2.1) (F:=fun j=>some ((j,()),())) (by omega) (fun j=>vL) l [] rfl
 rw[vJ,Af,h]
 simp only[ab_,AK]
 have e:(l.any fun y=>bk ay r y)=decide (r∈l):=by
  rw[bw_,List.any_eq_true,ai_]
  constructor
  ·rintro⟨y,hy,h⟩
   rw[Jn,ai_] at h
   rw[h]
   exact hy
  ·intro h
   exact⟨r,h,by rw[Jn,bd_ rfl]⟩
 rw[e]
section
variable {ks:List am} (hk:ks.length≤100000)
include hk
theorem Jo : ∀(ys pre F:List am),ks=pre++ys→F.length+ys.length≤1000000→fV ks (ks.length:Int) (pre.length:Int) F=some ((),(aF F ys,()))
 | [],pre,F,h,hb=>by
  rw[nY,aD (bj h)]
  rfl
 | y :: ys,pre,F,h,hb=>by
  rw[ak_] at hb
  rw[nY,aI (bA h),bD h,AR (by omega),ab_,aK h (by omega)]
  dsimp only
  unfold aF
  by_cases e:y∈F
  ·rw[bd_ e,ad_ (by decide),af_ e]
   exact Jo ys _ F (aB h) (by omega)
  ·rw[be_ e,af_ (by decide),ad_ e,bg (by simp only[ac_]; omega)]
   exact Jo ys _ _ (aB h) (by simp only[ae_,ac_]; omega)
theorem WE : ∀(ys pre F:List am),ks=pre++ys→F.length+ys.length≤1000000→jB ks (ks.length:Int) (pre.length:Int) F=some ((),(aF F ys,()))
 | [],pre,F,h,hb=>by
  rw[pv,aD (bj h)]
  rfl
 | y :: ys,pre,F,h,hb=>by
  rw[ak_] at hb
  rw[pv,aI (bA h),bD h,AR (by omega),ab_,aK h (by omega)]
  dsimp only
  unfold aF
  by_cases e:y∈F
  ·rw[bd_ e,ad_ (by decide),af_ e]
   exact WE ys _ F (aB h) (by omega)
  ·rw[be_ e,af_ (by decide),ad_ e,bg (by simp only[ac_]; omega)]
   exact Jo hk ys _ _ (aB h) (by simp only[ae_,ac_]; omega)
theorem Pl {F:List am} (hb:F.length≤100000):jz ks F=some ((),(aF F ks,())):=by
 rw[Cw]
 exact WE hk ks [] F rfl (by omega)
theorem FO {sh:List ae} {st:List ah} : ∀(ys pre L:List am),ks=pre++ys→L.length+ys.length≤100000000→gy (ks.length:Int) (pre.length:Int) sh st ks L=some ((),((sh,aF L ys,st,()),()))
 | [],pre,L,h,hb=>by
  rw[px,aD (bj h)]
  rfl
 | y :: ys,pre,L,h,hb=>by
  rw[ak_] at hb
  have hg:au_ ks (ap_ (pre.length:Int)) ay.dflt=y:=by rw[h]; exact eX
  rw[px,aI (bA h),gA h,hg,AR (by omega),ab_,aK h (by omega)]
  dsimp only
  unfold aF
  by_cases e:y∈L
  ·rw[bd_ e,ad_ (by decide),af_ e]
   exact FO ys _ L (aB h) (by omega)
  ·rw[be_ e,af_ (by decide),ad_ e,bg (by simp only[ac_]; omega)]
   exact FO ys _ _ (aB h) (by simp only[ae_,ac_]; omega)
theorem R3 {sh:List ae} {st:List ah} : ∀(ys pre L:List am),ks=pre++ys→L.length+ys.length≤100000000→hZ (ks.length:Int) (pre.length:Int) sh L st ks=some ((),((sh,aF L ys,st,()),()))
 | [],pre,L,h,hb=>by
  rw[qp,aD (bj h)]
  rfl
 | y :: ys,pre,L,h,hb=>by
  rw[ak_] at hb
  have hg:au_ ks (ap_ (pre.length:Int)) ay.dflt=y:=by rw[h]; exact eX
  rw[qp,aI (bA h),gA h,hg,AR (by omega),ab_,aK h (by omega)]
  dsimp only
  unfold aF
  by_cases e:y∈L
  ·rw[bd_ e,ad_ (by decide),af_ e]
   exact R3 ys _ L (aB h) (by omega)
  ·rw[be_ e,af_ (by decide),ad_ e,bg (by simp only[ac_]; omega)]
   exact FO hk ys _ _ (aB h) (by simp only[ae_,ac_]; omega)
end
section
variable {s:List ae} (hs:be s=true) {ar:List am} (ha:ar.length≤60)
include hs ha
theorem Jp {L:List am} {st:List ah} {k:Nat} {a:am} : ∀(ys pre:List ae) (F:List am),s=pre++ys→rG s ar F→F[k]? = some a→iX (k:Int) (s.length:Int) (pre.length:Int) s L st F=iU ((k+1:Nat):Int) s L st (ys.foldl (wV a) F)
 | [],pre,F,h,hI,hk=>by
  have hl:=hI.len
  have hu:=uh hs ha
  have hk1:=(ax_.1 hk).1
  rw[qO,aD (bj h),fx (by omega) (by omega)]
  rfl
 | y :: ys,pre,F,h,hI,hk=>by
  have hn:=bE hs
  have hl:=hI.len
  have hu:=uh hs ha
  have hk1:=(ax_.1 hk).1
  have hys:y∈s:=by rw[h]; simp
  have hy:y.2.1.size≤9223372036854775807:=lF hs y hys
  have hg:au_ s (ap_ (pre.length:Int)) av.dflt=y:=by rw[h]; exact eX
  have hga:au_ F (ap_ (k:Int)) ay.dflt=a:=by
   rw[bu_,ao_,hk]
   rfl
  have har:=pE hy
  rw[qO,aI (bA h),gA h,bI (nn _) (by omega),hg,hga,vq,ab_,aK h (by omega),ek_]
  dsimp only
  rw[show wV a F y=if dK a y.1=true then aF F (fy y.2.1) else F from rfl]
  by_cases e:dK a y.1=true
  ·rw[af_ e,af_ e,Y5 hy,ab_,O9 (Ji hy),ab_]
   show((jz (fy y.2.1) F).bind fun z4=>_)=_
   rw[Pl (by omega) (by omega),ab_]
   obtain⟨ex,hex⟩:=oY (fy y.2.1) F
   refine Jp ys _ _ (aB h) (hI.add fun x hx => ?_) ?_
   ·exact cq_ _ (ff_.2 ⟨y,hys,hx⟩)
   ·rw[hex,ci_ hk1]
    exact hk
  ·rw[ad_ e,ad_ e]
   exact Jp ys _ _ (aB h) hI hk
theorem Jq {L:List am} {st:List ah} : ∀(n k:Nat) (F:List am),rG s ar F→(lP s ar).length≤k+n→iU (k:Int) s L st F=hZ ((vH s n k F).length:Int) 0 s L st (vH s n k F)∧rG s ar (vH s n k F)
 | 0,k,F,hI,hn=>by
  have hl:=hI.len
  rw[qL,aD (by omega)]
  exact⟨rfl,hI⟩
 | n+1,k,F,hI,hn=>by
  have hl:=hI.len
  rw[qL]
  unfold vH
  by_cases hk:k < F.length
  ·have hka:=pD (d:=(ay.dflt:am)) hk
   rw[aI (by omega),hka]
   dsimp only
   have h7:=Jp hs ha (L:=L) (st:=st) s [] F rfl hI hka
   rw[AQ] at h7
   obtain⟨h1,h2⟩:=Jq (L:=L) (st:=st) n (k+1) (aF F (rF s (F.getD k ay.dflt))) (hI.add fun x hx=>Pk hx) (by omega)
   exact⟨h7.trans h1,h2⟩
  ·rw[aD (by omega),cd_ (by omega)]
   exact⟨rfl,hI⟩
theorem WF:rG s ar (ni s ar):=(Jq hs ha (L:=[]) (st:=[]) _ 0 _ (rG.first s ar) (by omega)).2
theorem K1:(ni s ar).length≤7260:=bn_ (WF hs ha).len (uh hs ha)
end
theorem YC {s:List ae} (hs:be s=true) {f:List ab} (hf:f.length≤60) {L:List am} {st:List ah} (hL:L.length≤10000000):sZ f s L st=some ((),((s,aF L (ni s (ci f)),st,()),())):=by
 have ha:(ci f).length≤60:=bn_ (HT f) hf
 have hlen:=K1 hs ha
 obtain⟨h1,_⟩:=Jq hs ha (L:=L) (st:=st) (lP s (ci f)).length 0 _ (rG.first s (ci f)) (by omega)
 rw[Fi,O9 hf,ab_]
 dsimp only
 rw[Pl (by omega) (by decide),ab_]
 refine Eq.trans h1 ?_
 exact R3 (ks:=ni s (ci f)) (by omega) (ni s (ci f)) [] L rfl (by omega)
structure oB (s:List ae) (ar todo:List am):Prop where
 ext : ∃ ex,todo=ar++ex∧ex.Nodup ∧ ∀ x∈ex,x ∉ ar∧x∈lP s ar
theorem oB.len {s:List ae} {ar todo:List am} (h:oB s ar todo):todo.length≤ar.length+(lP s ar).length:=by
 obtain⟨ex,e,hd,hx⟩:=h.ext
 have:=wT ex (lP s ar) hd fun x h=>(hx x h).2
 rw[e,ae_]
 omega
theorem oB.add {s:List ae} {ar:List am} : ∀(ks todo:List am),oB s ar todo→(∀ x∈ks,x∈lP s ar)→oB s ar (aF todo ks)
 | [],todo,h,_=>h
 | k :: ks,todo,h,hk=>by
  unfold aF
  by_cases e:k∈todo
  ·rw[af_ e]
   exact oB.add ks todo h fun x hx=>hk x (ar_ _ hx)
  ·rw[ad_ e]
   refine oB.add ks _ ?_ fun x hx=>hk x (ar_ _ hx)
   obtain⟨ex,e1,hd,hx⟩:=h.ext
   refine⟨ex++[k],by rw[e1]; simp,?_,fun x h => ?_⟩
   ·rw[List.nodup_append]
    refine⟨hd,by simp,fun a ha b hb => ?_⟩
    rw[bh_.1 hb]
    intro c
    exact e (e1 ▸ cq_ _ (c ▸ ha))
   ·rcases bo_.1 h with h | h
    ·exact hx x h
    ·rw[bh_.1 h]
     exact⟨fun c=>e (e1 ▸ cz_ _ c),hk k (by simp)⟩
section
variable {i k j:Nat} {at' steps code:Int} {z1 z2 z3:Int} {sets:List ah} {x0:List ae} {x1:List am} {x2:List ah} {s:List ae}
theorem Pm {looks todo more:List am} (ht:todo.length≤1000000) {a:am} (hm:more[j]? = some a) : ∀(ys pre:List am) (b:Bool),todo=pre++ys →
  mt (i:Int) (k:Int) (j:Int) b (pre.length:Int) s at' steps code sets z1 z2 z3 todo more looks x0 x1 x2=if(b || decide (a∈ys))=true then iZ (i:Int) (k:Int) (ha_ hb_ ((j:Int)+1)) s at' steps code sets z1 z2 z3 todo more looks x0 x1 x2 else iZ (i:Int) (k:Int) (ha_ hb_ ((j:Int)+1)) s at' steps code sets z1 z2 z3 (todo++[a]) more looks x0 x1 x2
 | [],pre,b,h=>by
  have hj:=(ax_.1 hm).1
  have hg:au_ more (ap_ (j:Int)) ay.dflt=a:=by
   rw[bu_,ao_,hm]
   rfl
  rw[wH,aD (bj h),bI (nn _) (by omega),hg,bg (by simp only[ac_]; omega)]
  cases b <;> simp
 | y :: ys,pre,b,h=>by
  have hj:=(ax_.1 hm).1
  have hg:au_ more (ap_ (j:Int)) ay.dflt=a:=by
   rw[bu_,ao_,hm]
   rfl
  have hgy:au_ todo (ap_ (pre.length:Int)) ay.dflt=y:=by rw[h]; exact eX
  rw[wH,aI (bA h),aK h (by omega),gA h,bI (nn _) (by omega),hg,hgy,Jn,Pm ht hm ys _ true (aB h),Pm ht hm ys _ _ (aB h)]
  cases b with
  | true=>simp
  | false =>
   rw[ad_ (by decide)]
   have e:(decide (y=a) || decide (a∈ys))=(false || decide (a∈y :: ys)):=by
    rw[ct_,bw_,cx_,ai_,ai_,ai_,bb_]
    constructor
    ·rintro(e | e)
     ·exact .inl e.symm
     ·exact .inr e
    ·rintro(e | e)
     ·exact .inl e.symm
     ·exact .inr e
   rw[e]
theorem Jr {looks todo more:List am} (ht:todo.length≤1000000) {a:am} (hm:more[j]? = some a) : ∀(ys pre:List am) (b:Bool),todo=pre++ys →
  lj (i:Int) (k:Int) (j:Int) b (pre.length:Int) s at' steps code looks sets z1 z2 z3 todo more x0 x1 x2=if(b || decide (a∈ys))=true then g6 (i:Int) (k:Int) (ha_ hb_ ((j:Int)+1)) s at' steps code looks sets z1 z2 z3 todo more x0 x1 x2 else g6 (i:Int) (k:Int) (ha_ hb_ ((j:Int)+1)) s at' steps code looks sets z1 z2 z3 (todo++[a]) more x0 x1 x2
 | [],pre,b,h=>by
  have hj:=(ax_.1 hm).1
  have hg:au_ more (ap_ (j:Int)) ay.dflt=a:=by
   rw[bu_,ao_,hm]
   rfl
  rw[vk,aD (bj h),bI (nn _) (by omega),hg,bg (by simp only[ac_]; omega)]
  cases b <;> simp
 | y :: ys,pre,b,h=>by
  have hj:=(ax_.1 hm).1
  have hg:au_ more (ap_ (j:Int)) ay.dflt=a:=by
   rw[bu_,ao_,hm]
   rfl
  have hgy:au_ todo (ap_ (pre.length:Int)) ay.dflt=y:=by rw[h]; exact eX
  rw[vk,aI (bA h),aK h (by omega),gA h,bI (nn _) (by omega),hg,hgy,Jn,Jr ht hm ys _ true (aB h),Jr ht hm ys _ _ (aB h)]
  cases b with
  | true=>simp
  | false =>
   rw[ad_ (by decide)]
   have e:(decide (y=a) || decide (a∈ys))=(false || decide (a∈y :: ys)):=by
    rw[ct_,bw_,cx_,ai_,ai_,ai_,bb_]
    constructor
    ·rintro(e | e)
     ·exact .inl e.symm
     ·exact .inr e
    ·rintro(e | e)
     ·exact .inl e.symm
     ·exact .inr e
   rw[e]
theorem Pn {looks more:List am} (hm:more.length≤60) : ∀(ys pre todo:List am),more=pre++ys→todo.length+ys.length≤100000 →
  iZ (i:Int) (k:Int) (pre.length:Int) s at' steps code sets z1 z2 z3 todo more looks x0 x1 x2=dT (i:Int) (ha_ hb_ ((k:Int)+1)) s at' steps code sets z1 z2 z3 (aF todo ys) looks x0 x1 x2
 | [],pre,todo,h,hb=>by
  rw[wF,aD (bj h)]
  rfl
 | y :: ys,pre,todo,h,hb=>by
  rw[ak_] at hb
  have hg:more[pre.length]? = some y:=by rw[h]; simp
  have h22:=Pm (i:=i) (k:=k) (j:=pre.length) (at':=at') (steps:=steps) (code:=code) (z1:=z1) (z2:=z2) (z3:=z3) (sets:=sets) (x0:=x0) (x1:=x1) (x2:=x2) (s:=s) (looks:=looks) (todo:=todo) (by omega) hg todo [] false rfl
  rw[wF,aI (bA h)]
  refine Eq.trans h22 ?_
  rw[ct_,aK h (by omega)]
  unfold aF
  by_cases e:y∈todo
  ·rw[bd_ e,af_ rfl,af_ e]
   exact Pn hm ys _ todo (aB h) (by omega)
  ·rw[be_ e,ad_ (by decide),ad_ e]
   exact Pn hm ys _ _ (aB h) (by simp only[ae_,ac_]; omega)
theorem Js {looks more:List am} (hm:more.length≤60) : ∀(ys pre todo:List am),more=pre++ys→todo.length+ys.length≤100000 →
  g6 (i:Int) (k:Int) (pre.length:Int) s at' steps code looks sets z1 z2 z3 todo more x0 x1 x2=g5 (i:Int) (ha_ hb_ ((k:Int)+1)) s at' steps code looks sets z1 z2 z3 (aF todo ys) x0 x1 x2
 | [],pre,todo,h,hb=>by
  rw[vj,aD (bj h)]
  rfl
 | y :: ys,pre,todo,h,hb=>by
  rw[ak_] at hb
  have hg:more[pre.length]? = some y:=by rw[h]; simp
  have h22:=Jr (i:=i) (k:=k) (j:=pre.length) (at':=at') (steps:=steps) (code:=code) (z1:=z1) (z2:=z2) (z3:=z3) (sets:=sets) (x0:=x0) (x1:=x1) (x2:=x2) (s:=s) (looks:=looks) (todo:=todo) (by omega) hg todo [] false rfl
  rw[vj,aI (bA h)]
  refine Eq.trans h22 ?_
  rw[ct_,aK h (by omega)]
  unfold aF
  by_cases e:y∈todo
  ·rw[bd_ e,af_ rfl,af_ e]
   exact Js hm ys _ todo (aB h) (by omega)
  ·rw[be_ e,ad_ (by decide),ad_ e]
   exact Js hm ys _ _ (aB h) (by simp only[ae_,ac_]; omega)
section
variable (hs:be s=true) {ar:List am} (ha:ar.length≤60)
include hs ha
theorem Po {looks:List am} {a:am} : ∀(ys pre:List ae) (todo:List am),s=pre++ys→oB s ar todo→todo[i]? = some a →
  dT (i:Int) (pre.length:Int) s at' steps code sets z1 z2 z3 todo looks x0 x1 x2=mr (ha_ hb_ ((i:Int)+1)) s at' steps code sets z1 z2 z3 (ys.foldl (wV a) todo) looks x0 x1 x2
 | [],pre,todo,h,hI,hi=>by
  rw[wE,aD (bj h)]
  rfl
 | y :: ys,pre,todo,h,hI,hi=>by
  have hn:=bE hs
  have hl:=hI.len
  have hu:=uh hs ha
  have hi1:=(ax_.1 hi).1
  have hys:y∈s:=by rw[h]; simp
  have hy:y.2.1.size≤9223372036854775807:=lF hs y hys
  have hg:au_ todo (ap_ (i:Int)) ay.dflt=a:=by
   rw[bu_,ao_,hi]
   rfl
  have har:=pE hy
  rw[wE,aI (bA h),bD h,bI (nn _) (by omega),hg,qw,ab_,bD h,sd hy,ab_,aK h (by omega),ek_]
  dsimp only
  rw[show wV a todo y=if dK a y.1=true then aF todo (fy y.2.1) else todo from rfl]
  by_cases e:dK a y.1=true
  ·have h18:=Pn (i:=i) (k:=pre.length) (at':=at') (steps:=steps) (code:=code) (z1:=z1) (z2:=z2) (z3:=z3) (sets:=sets) (x0:=x0) (x1:=x1) (x2:=x2) (s:=s) (looks:=looks) (more:=fy y.2.1) har (fy y.2.1) [] todo rfl (by omega)
   obtain⟨ex,hex⟩:=oY (fy y.2.1) todo
   rw[e,ad_ (by decide),af_ rfl]
   refine Eq.trans h18 ?_
   rw[aK h (by omega)]
   refine Po ys _ _ (aB h) (hI.add _ _ fun x hx=>cq_ _ (ff_.2 ⟨y,hys,hx⟩)) ?_
   rw[hex,ci_ hi1]
   exact hi
  ·have e:dK a y.1=false:=by simpa using e
   rw[e,af_ (by decide),ad_ (by decide)]
   exact Po ys _ _ (aB h) hI hi
theorem Jt {looks:List am} {a:am} : ∀(ys pre:List ae) (todo:List am),s=pre++ys→oB s ar todo→todo[i]? = some a →
  g5 (i:Int) (pre.length:Int) s at' steps code looks sets z1 z2 z3 todo x0 x1 x2=lD (ha_ hb_ ((i:Int)+1)) s at' steps code looks sets z1 z2 z3 (ys.foldl (wV a) todo) x0 x1 x2
 | [],pre,todo,h,hI,hi=>by
  rw[vi,aD (bj h)]
  rfl
 | y :: ys,pre,todo,h,hI,hi=>by
  have hn:=bE hs
  have hl:=hI.len
  have hu:=uh hs ha
  have hi1:=(ax_.1 hi).1
  have hys:y∈s:=by rw[h]; simp
  have hy:y.2.1.size≤9223372036854775807:=lF hs y hys
  have hg:au_ todo (ap_ (i:Int)) ay.dflt=a:=by
   rw[bu_,ao_,hi]
   rfl
  have har:=pE hy
  rw[vi,aI (bA h),bD h,bI (nn _) (by omega),hg,qw,ab_,bD h,sd hy,ab_,aK h (by omega),ek_]
  dsimp only
  rw[show wV a todo y=if dK a y.1=true then aF todo (fy y.2.1) else todo from rfl]
  by_cases e:dK a y.1=true
  ·have h18:=Js (i:=i) (k:=pre.length) (at':=at') (steps:=steps) (code:=code) (z1:=z1) (z2:=z2) (z3:=z3) (sets:=sets) (x0:=x0) (x1:=x1) (x2:=x2) (s:=s) (looks:=looks) (more:=fy y.2.1) har (fy y.2.1) [] todo rfl (by omega)
   obtain⟨ex,hex⟩:=oY (fy y.2.1) todo
   rw[e,ad_ (by decide),af_ rfl]
   refine Eq.trans h18 ?_
   rw[aK h (by omega)]
   refine Jt ys _ _ (aB h) (hI.add _ _ fun x hx=>cq_ _ (ff_.2 ⟨y,hys,hx⟩)) ?_
   rw[hex,ci_ hi1]
   exact hi
  ·have e:dK a y.1=false:=by simpa using e
   rw[e,af_ (by decide),ad_ (by decide)]
   exact Jt ys _ _ (aB h) hI hi
end
theorem Ue {looks todo:List am} (ht:todo.length≤100000) (hl:looks.length≤100000000) {a:am} (hi:todo[i]? = some a) : ∀(ys pre:List am) (b:Bool),looks=pre++ys →
  nV (i:Int) b (pre.length:Int) s at' steps code looks sets z1 z2 z3 todo x0 x1 x2=if(b || decide (a∈ys))=true then g5 (i:Int) 0 s at' steps code looks sets z1 z2 z3 todo x0 x1 x2 else dT (i:Int) 0 s at' steps code sets z1 z2 z3 todo (looks++[a]) x0 x1 x2
 | [],pre,b,h=>by
  have hi1:=(ax_.1 hi).1
  have hg:au_ todo (ap_ (i:Int)) ay.dflt=a:=by
   rw[bu_,ao_,hi]
   rfl
  rw[yN,aD (bj h),bg (by simp only[bi_]; omega),bI (nn _) (by omega),hg,da_,bg (by simp only[ac_]; omega)]
  cases b <;> simp
 | y :: ys,pre,b,h=>by
  have hi1:=(ax_.1 hi).1
  have hg:au_ todo (ap_ (i:Int)) ay.dflt=a:=by
   rw[bu_,ao_,hi]
   rfl
  rw[yN,aI (bA h),aK h (by omega),bD h,bI (nn _) (by omega),hg,Jn,Ue ht hl hi ys _ true (aB h),Ue ht hl hi ys _ _ (aB h)]
  cases b with
  | true=>simp
  | false =>
   rw[ad_ (by decide)]
   have e:(decide (y=a) || decide (a∈ys))=(false || decide (a∈y :: ys)):=by
    rw[ct_,bw_,cx_,ai_,ai_,ai_,bb_]
    constructor
    ·rintro(e | e)
     ·exact .inl e.symm
     ·exact .inr e
    ·rintro(e | e)
     ·exact .inl e.symm
     ·exact .inr e
   rw[e]
theorem Pp {looks todo:List am} (ht:todo.length≤100000) (hl:looks.length≤100000000) {a:am} (hi:todo[i]? = some a) : ∀(ys pre:List am) (b:Bool),looks=pre++ys →
  mu (i:Int) b (pre.length:Int) s at' steps code sets z1 z2 z3 todo looks x0 x1 x2=if(b || decide (a∈ys))=true then dT (i:Int) 0 s at' steps code sets z1 z2 z3 todo looks x0 x1 x2 else dT (i:Int) 0 s at' steps code sets z1 z2 z3 todo (looks++[a]) x0 x1 x2
 | [],pre,b,h=>by
  have hi1:=(ax_.1 hi).1
  have hg:au_ todo (ap_ (i:Int)) ay.dflt=a:=by
   rw[bu_,ao_,hi]
   rfl
  rw[wI,aD (bj h),bg (by simp only[bi_]; omega),bI (nn _) (by omega),hg,da_,bg (by simp only[ac_]; omega)]
  cases b <;> simp
 | y :: ys,pre,b,h=>by
  have hi1:=(ax_.1 hi).1
  have hg:au_ todo (ap_ (i:Int)) ay.dflt=a:=by
   rw[bu_,ao_,hi]
   rfl
  have hgy:au_ looks (ap_ (pre.length:Int)) ay.dflt=y:=by rw[h]; exact eX
  rw[wI,aI (bA h),aK h (by omega),gA h,bI (nn _) (by omega),hg,hgy,Jn,Pp ht hl hi ys _ true (aB h),Pp ht hl hi ys _ _ (aB h)]
  cases b with
  | true=>simp
  | false =>
   rw[ad_ (by decide)]
   have e:(decide (y=a) || decide (a∈ys))=(false || decide (a∈y :: ys)):=by
    rw[ct_,bw_,cx_,ai_,ai_,ai_,bb_]
    constructor
    ·rintro(e | e)
     ·exact .inl e.symm
     ·exact .inr e
    ·rintro(e | e)
     ·exact .inl e.symm
     ·exact .inr e
   rw[e]
end
section
variable {at' steps code:Int} {z1 z2 z3:Int} {sets:List ah} {x0:List ae} {x1:List am} {x2:List ah} {s:List ae} (hs:be s=true) {ar:List am} (ha:ar.length≤60) {L:List am} (hL:L.length≤10000000)
include hs ha hL
theorem WG (n:Nat) (pre:List am) :
  lD (pre.length:Int) s at' steps code (aF L pre) sets z1 z2 z3 (pre++[]) x0 x1 x2=some (((s,at',steps,code,aF L (vH s n (aF [] pre).length (aF [] (pre++[]))),sets,()),()),()) ∧
  mr (pre.length:Int) s at' steps code sets z1 z2 z3 (pre++[]) (aF L pre) x0 x1 x2=some (((s,at',steps,code,aF L (vH s n (aF [] pre).length (aF [] (pre++[]))),sets,()),()),()):=by
  have e1:vH s n (aF [] pre).length (aF [] pre)=aF [] pre:=by
   cases n with
   | zero=>rfl
   | succ n =>
    unfold vH
    rw[cd_ (aq_ _)]
  rw[yL,wG,bx_,aD (by omega),aD (by omega),e1,abf]
  exact⟨rfl,rfl⟩
theorem aac : ∀(m n:Nat) (pre ys:List am),oB s ar (pre++ys)→(∀ b∈pre,∀ x∈rF s b,x∈pre++ys)→(lP s ar).length≤(aF [] pre).length+n→n*100000+ys.length≤m →
  lD (pre.length:Int) s at' steps code (aF L pre) sets z1 z2 z3 (pre++ys) x0 x1 x2=some (((s,at',steps,code,aF L (vH s n (aF [] pre).length (aF [] (pre++ys))),sets,()),()),()) ∧
  mr (pre.length:Int) s at' steps code sets z1 z2 z3 (pre++ys) (aF L pre) x0 x1 x2=some (((s,at',steps,code,aF L (vH s n (aF [] pre).length (aF [] (pre++ys))),sets,()),()),()):=by
 intro m
 induction m with
 | zero =>
  intro n pre ys hT hc hn hm
  cases ys with
  | nil=>exact WG hs ha hL n pre
  | cons y ys =>
   rw[ak_] at hm
   omega
 | succ m ih =>
  intro n pre ys hT hc hn hm
  cases ys with
  | nil=>exact WG hs ha hL n pre
  | cons y ys =>
   rw[ak_] at hm
   have hlen:=hT.len
   have hu:=uh hs ha
   rw[ae_,ak_] at hlen
   have hLl:=sR L pre
   have hi:(pre++y :: ys)[pre.length]? = some y:=by simp
   have hlt:(pre.length:Int) < ((pre++y :: ys).length:Int):=by simp only[ae_,ak_]; omega
   have hw:IntKind.i64.wrap ((pre.length:Int)+1)=((pre++[y]).length:Int):=by
    rw[fx (by omega) (by omega)]
    simp
   have h7:=Ue (i:=pre.length) (at':=at') (steps:=steps) (code:=code) (z1:=z1) (z2:=z2) (z3:=z3) (sets:=sets) (x0:=x0) (x1:=x1) (x2:=x2) (s:=s) (looks:=aF L pre) (todo:=pre++y :: ys) (by rw[ae_,ak_]; omega) (by omega) hi (aF L pre) [] false rfl
   have h7':=Pp (i:=pre.length) (at':=at') (steps:=steps) (code:=code) (z1:=z1) (z2:=z2) (z3:=z3) (sets:=sets) (x0:=x0) (x1:=x1) (x2:=x2) (s:=s) (looks:=aF L pre) (todo:=pre++y :: ys) (by rw[ae_,ak_]; omega) (by omega) hi (aF L pre) [] false rfl
   have h13:=fun lk=>Po (i:=pre.length) (at':=at') (steps:=steps) (code:=code) (z1:=z1) (z2:=z2) (z3:=z3) (sets:=sets) (x0:=x0) (x1:=x1) (x2:=x2) hs ha (looks:=lk) s [] (pre++y :: ys) rfl hT hi
   have h13':=fun lk=>Jt (i:=pre.length) (at':=at') (steps:=steps) (code:=code) (z1:=z1) (z2:=z2) (z3:=z3) (sets:=sets) (x0:=x0) (x1:=x1) (x2:=x2) hs ha (looks:=lk) s [] (pre++y :: ys) rfl hT hi
   rw[AQ] at h13 h13'
   obtain⟨ex,hex⟩:=oY (rF s y) (pre++y :: ys)
   have hT':oB s ar (aF (pre++y :: ys) (rF s y)):=hT.add _ _ fun x hx=>Pk hx
   have hsplit:aF (pre++y :: ys) (rF s y)=(pre++[y])++(ys++ex):=by rw[hex]; simp
   have hmem : ∀ x,x∈(pre++[y])++(ys++ex)↔x∈pre++y :: ys∨x∈rF s y:=fun x=>by rw[←hsplit,k9]
   have hclo : ∀ b∈pre++[y],∀ x∈rF s b,x∈(pre++[y])++(ys++ex):=by
    intro b hb x hx
    rw[hmem]
    rcases bo_.1 hb with hb | hb
    ·exact .inl (hc b hb x hx)
    ·rw[bh_.1 hb] at hx
     exact .inr hx
   have hone:aF L (pre++[y])=if y∈aF L pre then aF L pre else aF L pre++[y]:=by
    by_cases h:y∈aF L pre
    ·rw[jU,rC,af_ h,af_ h]
    ·rw[jU,rC,ad_ h,ad_ h]
   have hDone:aF [] (pre++[y])=if y∈aF [] pre then aF [] pre else aF [] pre++[y]:=by
    by_cases h:y∈aF [] pre
    ·rw[jU,rC,af_ h,af_ h]
    ·rw[jU,rC,ad_ h,ad_ h]
   have hr : ∃ n',n'*100000+(ys++ex).length≤m∧(lP s ar).length≤(aF [] (pre++[y])).length+n'∧vH s n (aF [] pre).length (aF [] (pre++y :: ys))=vH s n' (aF [] (pre++[y])).length (aF [] ((pre++[y])++(ys++ex))):=by
    by_cases hy:y∈pre
    ·have hin:aF (pre++y :: ys) (rF s y)=pre++y :: ys:=RP _ _ fun x hx=>hc y hy x hx
     have hex0:ex=[]:=by
      rw[hex] at hin
      exact List.append_right_eq_self.1 hin
     subst hex0
     have e1:aF [] (pre++[y])=aF [] pre:=by rw[hDone,af_ ((L3 _ _).2 hy)]
     refine⟨n,by rw[bx_]; omega,by rw[e1]; exact hn,?_⟩
     rw[e1,bx_,show pre++[y]++ys=pre++y :: ys by simp]
    ·have hyD:y ∉ aF [] pre:=fun h=>hy ((L3 _ _).1 h)
     have e1:aF [] (pre++[y])=aF [] pre++[y]:=by rw[hDone,ad_ hyD]
     have e2 : ∃ ex2,aF [] (pre++y :: ys)=(aF [] pre++[y])++ex2:=by
      rw[show pre++y :: ys=(pre++[y])++ys by simp,abJ,e1]
      exact oY _ _
     obtain⟨ex2,e2⟩:=e2
     have hDl:(aF [] (pre++y :: ys)).length≤(lP s ar).length:=wT _ _ (RQ _) fun x hx=>by
      obtain⟨ex3,e3,_,e4⟩:=hT.ext
      have:=(L3 _ _).1 hx
      rw[e3] at this
      rcases bo_.1 this with h | h
      ·exact cz_ _ h
      ·exact(e4 x h).2
     rw[e2] at hDl
     simp only[ae_,ac_] at hDl
     obtain⟨n',rfl⟩ : ∃ n',n=n'+1:=⟨n - 1,by omega⟩
     have hexl:=hT'.len
     rw[hsplit] at hexl
     simp only[ae_,ac_] at hexl
     have hm2:n'*100000+100000+(ys.length+1)≤m+1:=by rw[←Nat.succ_mul]; exact hm
     have hml:n'*100000+(ys++ex).length≤m:=by
      rw[ae_]
      clear hn hDl hLl hlen
      generalize n'*100000=q at hm2 ⊢
      omega
     refine⟨n',hml,by rw[e1,ae_,ac_]; omega,?_⟩
     have hget:(aF [] (pre++y :: ys))[(aF [] pre).length]? = some y:=by
      rw[e2]
      simp
     conv=>lhs; unfold vH
     rw[hget]
     dsimp only
     rw[e1,ae_,ac_,←hsplit,abK]
   obtain⟨n',hm',hn',hlk⟩:=hr
   obtain⟨r1,r2⟩:=ih n' (pre++[y]) (ys++ex) (by rw[←hsplit]; exact hT') hclo hn' hm'
   rw[hlk]
   constructor
   ·rw[yL,aI hlt]
    refine Eq.trans h7 ?_
    rw[ct_]
    by_cases hy:y∈aF L pre
    ·rw[bd_ hy,af_ rfl]
     rw[hone,af_ hy] at r1
     refine Eq.trans (h13' _) ?_
     rw[hsplit,hw]
     exact r1
    ·rw[be_ hy,ad_ (by decide)]
     rw[hone,ad_ hy] at r2
     refine Eq.trans (h13 _) ?_
     rw[hsplit,hw]
     exact r2
   ·rw[wG,aI hlt]
    refine Eq.trans h7' ?_
    rw[ct_]
    by_cases hy:y∈aF L pre
    ·rw[bd_ hy,af_ rfl]
     rw[hone,af_ hy] at r2
     refine Eq.trans (h13 _) ?_
     rw[hsplit,hw]
     exact r2
    ·rw[be_ hy,ad_ (by decide)]
     rw[hone,ad_ hy] at r2
     refine Eq.trans (h13 _) ?_
     rw[hsplit,hw]
     exact r2
end
theorem YD {s:List ae} (hs:be s=true) {at' steps code:Int} {L:List am} {sets:List ah} {x:aa_} (hx:x.size≤1000000) (hL:L.length≤10000000):zV (s,at',steps,code,L,sets,()) x=some (((s,at',steps,code,aF L (ni s (fy ((⟨#[61]⟩:aa_)++x))),sets,()),()),()):=by
 have h1:(⟨#[61]⟩:aa_).size=1:=rfl
 have h2:((⟨#[61]⟩:aa_)++x).size≤9223372036854775807:=by
  rw[fl_,h1]
  omega
 have ha:=pE h2
 rw[Qi,ga (by rw[h1]; omega),sd h2,ab_]
 have hT:oB s (fy ((⟨#[61]⟩:aa_)++x)) ([]++fy ((⟨#[61]⟩:aa_)++x)):=⟨[],by simp,List.nodup_nil,fun x hx=>by cases hx⟩
 obtain⟨r1,_⟩:=aac (at':=at') (steps:=steps) (code:=code) (z1:=0) (z2:=0) (z3:=0) (sets:=sets) (x0:=[]) (x1:=[]) (x2:=[]) hs ha hL _ (lP s (fy ((⟨#[61]⟩:aa_)++x))).length [] (fy ((⟨#[61]⟩:aa_)++x)) hT (fun b hb=>by cases hb) (by omega) (aq_ _)
 exact r1
section
variable {s:List ae} (hs:be s=true)
include hs
theorem Ju {i:Nat} (hi:i < s.length):aA (De s i)=true:=RZ hs (fun _ _=>NY) hi
end
theorem aad {x:aa_} (h:fO x=true) (h61:(lb x).head? = some 61) : ∃ f,cZ x=some f∧jb (ba ((lb x).drop 1))=(f,true):=by
 have hsz:=AH h
 have hw:(lb x).length≤9223372036854775807:=by rw[iA]; omega
 obtain⟨h1,h2,h3⟩:=C7.1 h
 have hb:=Jc hw
 rw[ec] at hb
 have h4:(oX (lb x)).2=true:=by
  rw[hb] at h1
  exact h1
 have hne:lb x≠[]:=by
  intro e
  rw[e] at h61
  cases h61
 have hp:((lb x).all vy && decide ((lb x).length≤200))=true:=by
  cases hp:((lb x).all vy && decide ((lb x).length≤200)) with
  | true=>rfl
  | false =>
   have e:oX (lb x)=([],false):=by
    unfold oX
    rw[ad_ hne,hp,af_ rfl]
   rw[e] at h4
   cases h4
 have e:=Jd hne hp
 rw[af_ h61] at e
 dsimp only at e
 have hr:(jb (ba ((lb x).drop 1))).2=true:=by
  by_cases hr:(jb (ba ((lb x).drop 1))).2=true∧k7 (jb (ba ((lb x).drop 1))).1≠[]∧(k7 (jb (ba ((lb x).drop 1))).1).length < 200
  ·exact hr.1
  ·rw[ad_ hr] at e
   rw[e] at h4
   cases h4
 refine⟨(jb (ba ((lb x).drop 1))).1,?_,Prod.ext rfl hr⟩
 unfold cZ
 rw[af_ ⟨h61,hr⟩]
noncomputable def jV (x:aa_):Bool:=fO ((⟨#[61]⟩:aa_)++x)
theorem abi (x:aa_):(⟨#[61]⟩:aa_)++x=ba (61 :: lb x):=by
 rw[show(⟨#[61]⟩:aa_)=ba [61] from rfl]
 conv=>lhs; rw[←ec x]
 rw[lu]
 rfl
theorem Jv (x:aa_):((⟨#[61]⟩:aa_)++x).size=x.size+1:=by
 rw[fl_]
 show 1+x.size=_
 omega
section
variable {x:aa_} (hx:x.size≤1000000000)
include hx
theorem LM:m6 x=some ((jV x,()),()):=by
 have h1:(⟨#[61]⟩:aa_).size=1:=rfl
 rw[LD,ga (by omega),qA (by rw[Jv]; omega)]
 rfl
theorem Jw:fh x=some ((jV x,()),()):=by
 have h1:(⟨#[61]⟩:aa_).size=1:=rfl
 have hne:(⟨#[61]⟩:aa_)++x≠eS:=by
  intro e
  have:=congrArg ByteArray.size e
  rw[Jv] at this
  cases this
 rw[II,ga (by omega),(mC (x:=(⟨#[61]⟩:aa_)++x) (by rw[Jv]; omega)).2.1,ab_,ga (by omega)]
 unfold jV fO
 cases (eK ((⟨#[61]⟩:aa_)++x)).2 with
 | false=>rfl
 | true =>
  dsimp only
  rw[af_ rfl,eqD,be_ hne]
  rfl
end
theorem zj {t:aa_} (h:jV t=true) : ∃ f,cZ ((⟨#[61]⟩:aa_)++t)=some f∧jb t=(f,true)∧fg f=true∧t.size≤199:=by
 have hsz:=AH h
 rw[Jv] at hsz
 have e:lb ((⟨#[61]⟩:aa_)++t)=61 :: lb t:=by rw[abi,dy]
 obtain⟨f,h1,h2⟩:=aad h (by rw[e]; rfl)
 rw[e,List.drop_succ_cons,List.drop_zero,ec] at h2
 exact⟨f,h1,h2,k8 h1 (by rw[Jv]; omega),by omega⟩
noncomputable def oZ (x:aZ) (a b:Int):Bool :=
 if x.1=1 then bT x.2.1 && jV x.2.2.1 && decide (x.2.2.2.1=0)
 else if x.1=2 then bT x.2.1 && O5 x.2.2.1 && decide (x.2.2.2.1=0)
 else if x.1=3 then decide (x.2.1=(0,0,())) && jV x.2.2.1 && cq x.2.2.2.1 1 b
 else if x.1=4 then decide (x.2.1=(0,0,())) && jV x.2.2.1 && cq x.2.2.2.1 1 a
 else if x.1=5 then decide (x.2.1=(0,0,())) && jV x.2.2.1 && decide (x.2.2.2.1=0)
 else false
theorem abj (a b:ah):bk ak a b=decide (a=b):=by
 rw[bw_,ai_]
 exact km rfl
section
variable {x:aZ} (hx:x.2.2.1.size≤1000000000)
include hx
theorem YE (a b:Int):uT x a b=some ((oZ x a b,()),()):=by
 rw[G9]
 unfold oZ
 simp only[sF,LM hx,qA (show x.2.2.1.size≤9223372036854775807 by omega),gj,ab_,eqE,abj,oQ,ai_]
 by_cases h1:x.1=1
 ·rw[af_ h1,af_ h1]
  cases bT x.2.1 <;> cases jV x.2.2.1 <;> simp
 ·rw[ad_ h1,ad_ h1]
  by_cases h2:x.1=2
  ·rw[af_ h2,af_ h2]
   unfold O5
   cases bT x.2.1 <;> by_cases he:x.2.2.1=eS <;> cases fO x.2.2.1 <;> simp[he]
  ·rw[ad_ h2,ad_ h2]
   by_cases h3:x.1=3
   ·rw[af_ h3,af_ h3]
    by_cases he:x.2.1=(0,0,()) <;> cases jV x.2.2.1 <;> simp[he]
   ·rw[ad_ h3,ad_ h3]
    by_cases h4:x.1=4
    ·rw[af_ h4,af_ h4]
     by_cases he:x.2.1=(0,0,()) <;> cases jV x.2.2.1 <;> simp[he]
    ·rw[ad_ h4,ad_ h4]
     by_cases h5:x.1=5
     ·rw[af_ h5,af_ h5]
      by_cases he:x.2.1=(0,0,()) <;> cases jV x.2.2.1 <;> simp[he]
     ·rw[ad_ h5,ad_ h5]
end
noncomputable def xD (n:Int):Int→List aZ→Bool
 | _,[]=>true
 | i,x :: l=>oZ x i (n - 1 - i) && xD n (i+1) l
noncomputable def jg (m:List aZ):Bool:=xD m.length 0 m && decide (m.length≤30)
theorem R4 {n:Int} : ∀ {l:List aZ} {i:Int},xD n i l=true → ∀(k:Nat) (x:aZ),l[k]? = some x→oZ x (i+k) (n - 1 - (i+k))=true
 | [],i,_,k,x,h=>by simp at h
 | y :: l,i,hm,k,x,h=>by
  unfold xD at hm
  rw[ah_] at hm
  cases k with
  | zero =>
   simp only[List.getElem?_cons_zero,bg_] at h
   subst h
   have e:i+((0:Nat):Int)=i:=by omega
   rw[e]
   exact hm.1
  | succ k =>
   simp only[List.getElem?_cons_succ] at h
   have:=R4 hm.2 k x h
   have e:i+1+(k:Int)=i+((k+1:Nat):Int):=by omega
   rw[e] at this
   exact this
theorem YF {m:List aZ} (h:jg m=true) {k:Nat} {x:aZ} (hx:m[k]? = some x):oZ x k ((m.length:Int) - 1 - k)=true:=by
 unfold jg at h
 rw[ah_] at h
 have:=R4 h.1 k x hx
 have e:(0:Int)+(k:Int)=(k:Int):=by omega
 rw[e] at this
 exact this
theorem K2 {m:List aZ} (h:jg m=true):m.length≤30:=by
 unfold jg at h
 rw[ah_,ai_] at h
 exact h.2
section
variable {m:List aZ} (hm:m.length≤2000000) (hs : ∀ x∈m,x.2.2.1.size≤1000000000)
include hm hs
theorem K3 : ∀(ys pre:List aZ),m=pre++ys→rZ m m (m.length:Int) (pre.length:Int)=some ((xD m.length pre.length ys && decide (m.length≤30),()),())
 | [],pre,h=>by
  have e:decide ((m.length:Int)≤30)=decide (m.length≤30):=by
   rw[bw_,ai_,ai_]
   omega
  rw[yI,aD (bj h),e]
  rfl
 | y :: ys,pre,h=>by
  have hlen:m.length=pre.length+(ys.length+1):=by rw[h]; simp
  have hy:=hs y (by rw[h]; simp)
  have e:((pre++[y]).length:Int)=(pre.length:Int)+1:=by simp
  rw[yI,aI (bA h),bD h,YE hy,ab_,aK h (by omega),fx (n:=(m.length:Int) - 1) (by omega) (by omega),fx (by omega) (by omega),K3 ys _ (aB h),e]
  dsimp only
  rw[show xD (m.length:Int) (pre.length:Int) (y :: ys)=(oZ y pre.length ((m.length:Int) - 1 - pre.length) && xD m.length ((pre.length:Int)+1) ys) from rfl]
  cases oZ y pre.length ((m.length:Int) - 1 - pre.length) <;> simp
theorem Qx:Fa m=some ((jg m,()),()):=by
 rw[P9]
 exact K3 hm hs m [] rfl
omit hm hs in
theorem abL {y:aZ} (hy:y.2.2.1.size≤1000000000) {a b:Int} {K:Option ((Bool×Unit)×Unit)} :
  (if(y.1 == 1)=true then((dl y.2.1).bind fun z1=>(if(!z1.1.1)=true then(some ((false,()),(()))) else(if(y.2.2.2.1 != 0)=true then(some ((false,()),(()))) else((fh y.2.2.1).bind fun z2=>(if(!z2.1.1)=true then(some ((false,()),(()))) else K))))) else(if(y.1 == 2)=true then((dR y.2.2.1).bind fun z3=>((dl y.2.1).bind fun z4=>(if(!z4.1.1)=true then(some ((false,()),(()))) else(if(y.2.2.2.1 != 0)=true then(some ((false,()),(()))) else(if(!z3.1.2.1)=true then(some ((false,()),(()))) else(if(!(ag_ z3.1.1 == ag_ y.2.2.1))=true then(some ((false,()),(()))) else K)))))) else(if(y.1 == 3)=true then(if(!(bk ak y.2.1 (0,0,())))=true then(some ((false,()),(()))) else((ig y.2.2.2.1 1 b).bind fun z5=>(if(!z5.1.1)=true then(some ((false,()),(()))) else((fh y.2.2.1).bind fun z6=>(if(!z6.1.1)=true then(some ((false,()),(()))) else K))))) else(if(y.1 == 4)=true then(if(!(bk ak y.2.1 (0,0,())))=true then(some ((false,()),(()))) else((ig y.2.2.2.1 1 a).bind fun z7=>(if(!z7.1.1)=true then(some ((false,()),(()))) else((fh y.2.2.1).bind fun z8=>(if(!z8.1.1)=true then(some ((false,()),(()))) else K))))) else(if(y.1 == 5)=true then(if(!(bk ak y.2.1 (0,0,())))=true then(some ((false,()),(()))) else(if(y.2.2.2.1 != 0)=true then(some ((false,()),(()))) else((fh y.2.2.1).bind fun z9=>(if(!z9.1.1)=true then(some ((false,()),(()))) else K)))) else(some ((false,()),(()))))))))=if oZ y a b=true then K else some ((false,()),()):=by
 unfold oZ
 have hne:(y.2.2.2.1 != 0) = !decide (y.2.2.2.1=0):=rfl
 rw[←Yn]
 simp only[kE,Jw hy,(mC (show y.2.2.1.size≤9223372036854775807 by omega)).2.1,jR,ab_,eqD,abj,oQ,ai_,hne]
 by_cases h1:y.1=1
 ·rw[af_ h1,af_ h1]
  cases bT y.2.1 <;> cases jV y.2.2.1 <;> by_cases h0:y.2.2.2.1=0 <;> simp[h0]
 ·rw[ad_ h1,ad_ h1]
  by_cases h2:y.1=2
  ·rw[af_ h2,af_ h2]
   cases bT y.2.1 <;> cases (eK y.2.2.1).2 <;> by_cases h0:y.2.2.2.1=0 <;> by_cases hp:(eK y.2.2.1).1=y.2.2.1 <;> simp[h0,hp]
  ·rw[ad_ h2,ad_ h2]
   by_cases h3:y.1=3
   ·rw[af_ h3,af_ h3]
    by_cases he:y.2.1=(0,0,()) <;> cases jV y.2.2.1 <;> cases cq y.2.2.2.1 1 b <;> simp[he]
   ·rw[ad_ h3,ad_ h3]
    by_cases h4:y.1=4
    ·rw[af_ h4,af_ h4]
     by_cases he:y.2.1=(0,0,()) <;> cases jV y.2.2.1 <;> cases cq y.2.2.2.1 1 a <;> simp[he]
    ·rw[ad_ h4,ad_ h4]
     by_cases h5:y.1=5
     ·rw[af_ h5,af_ h5]
      by_cases he:y.2.1=(0,0,()) <;> cases jV y.2.2.1 <;> by_cases h0:y.2.2.2.1=0 <;> simp[he,h0]
     ·rw[ad_ h5,ad_ h5]
      simp
theorem K4 : ∀(ys pre:List aZ),m=pre++ys→ir m (pre.length:Int)=some ((xD m.length pre.length ys,()),())
 | [],pre,h=>by
  rw[yG,aD (bj h)]
  rfl
 | y :: ys,pre,h=>by
  have hlen:m.length=pre.length+(ys.length+1):=by rw[h]; simp
  have hy:=hs y (by rw[h]; simp)
  have e:((pre++[y]).length:Int)=(pre.length:Int)+1:=by simp
  rw[yG,aI (bA h),bD h,aK h (by omega),fx (n:=(m.length:Int) - 1) (by omega) (by omega),fx (n:=(m.length:Int) - 1 - pre.length) (by omega) (by omega),K4 ys _ (aB h),abL hy,e]
  rw[show xD (m.length:Int) (pre.length:Int) (y :: ys)=(oZ y pre.length ((m.length:Int) - 1 - pre.length) && xD m.length ((pre.length:Int)+1) ys) from rfl]
  cases oZ y pre.length ((m.length:Int) - 1 - pre.length) <;> simp
theorem EI:jN m=some ((jg m,()),()):=by
 rw[P2]
 unfold jg
 by_cases h:m.length≤30
 ·rw[aD (by omega),bd_ h,Bool.and_true]
  exact K4 hm hs m [] rfl
 ·rw[aI (by omega),be_ h,Bool.and_false]
end
theorem R5 {v:ac} (h:aA v=true) (h0:v.1≠0) (hl:(bO v).size≤200):fO (bO v)=true:=by
 have hrd:=Ax h
 have hpl:=Hv h
 have hb:=Jc (w:=lb (bO v)) (by rw[iA]; omega)
 rw[ec] at hb
 rw[←ec (bO v),OX] at hpl
 have hne:lb (bO v)≠[]:=by
  intro e
  rw[e] at hrd
  have h1:bJ []=(v0,true):=Ax (v:=v0) (by decide)
  rw[h1] at hrd
  have:=congrArg (fun p=>p.1.1) hrd
  exact h0 this.symm
 have hall:((lb (bO v)).all vy && decide ((lb (bO v)).length≤200))=true:=by
  rw[hpl,iA,bd_ hl]
  rfl
 have hnum:gl (lb (bO v))=true→v.1=1:=by
  intro hn
  rcases tQ h with k | k | k | k | k
  ·exact bk_ k h0
  ·exact k
  ·exfalso
   have e:lb (bO v)=39 :: lb v.2.2.1:=by
    unfold bO
    rw[ad_ (by omega),af_ k,show(⟨#[39]⟩:aa_)=ba [39] from rfl]
    conv=>lhs; rw[←ec v.2.2.1]
    rw[lu,dy]
    rfl
   rw[e] at hn
   unfold gl jH at hn
   have hm:ja (39 :: lb v.2.2.1)=39 :: lb v.2.2.1:=rfl
   rw[hm,List.all_cons] at hn
   have:dw 39=false:=by decide
   rw[this] at hn
   simp at hn
  ·exfalso
   have hr:=yT h k
   have e:bO v=wN v.2.1:=by
    unfold bO
    rw[ad_ (by omega),ad_ (by omega),af_ k]
   rw[e] at hn
   have:v.2.1=0∨v.2.1=1:=by omega
   rcases this with q | q <;> rw[q] at hn <;> exact bk_ hn (by decide +kernel)
  ·exfalso
   have hr:=uc h k
   have e:bO v=df v.2.1:=by
    unfold bO
    rw[ad_ (by omega),ad_ (by omega),ad_ (by omega),af_ k]
   rw[e] at hn
   have:v.2.1=1∨v.2.1=2∨v.2.1=3∨v.2.1=4∨v.2.1=5:=by omega
   rcases this with q | q | q | q | q <;> rw[q] at hn <;> exact bk_ hn (by decide +kernel)
 have h61:(lb (bO v)).head? ≠ some 61:=by
  intro e
  rcases tQ h with k | k | k | k | k
  ·exact h0 k
  ·have hr:=rj h k
   have e2:bO v=cY v.2.1:=by
    unfold bO
    rw[af_ k]
   rw[e2] at e
   exact(OY hr.1 hr.2).2.2.2.1 e
  ·have e2:lb (bO v)=39 :: lb v.2.2.1:=by
    unfold bO
    rw[ad_ (by omega),af_ k,show(⟨#[39]⟩:aa_)=ba [39] from rfl]
    conv=>lhs; rw[←ec v.2.2.1]
    rw[lu,dy]
    rfl
   rw[e2] at e
   simp at e
  ·have hr:=yT h k
   have e2:bO v=wN v.2.1:=by
    unfold bO
    rw[ad_ (by omega),ad_ (by omega),af_ k]
   rw[e2] at e
   have:v.2.1=0∨v.2.1=1:=by omega
   rcases this with q | q <;> rw[q] at e <;> exact bk_ e (by decide +kernel)
  ·have hr:=uc h k
   have e2:bO v=df v.2.1:=by
    unfold bO
    rw[ad_ (by omega),ad_ (by omega),ad_ (by omega),af_ k]
   rw[e2] at e
   have:v.2.1=1∨v.2.1=2∨v.2.1=3∨v.2.1=4∨v.2.1=5:=by omega
   rcases this with q | q | q | q | q <;> rw[q] at e <;> exact bk_ e (by decide +kernel)
 have hW:oX (lb (bO v))=(lb (bO v),true):=by
  rw[Jd hne hall,ad_ h61]
  by_cases hn:gl (lb (bO v))=true
  ·have k:=hnum hn
   have hr:=rj h k
   have e2:bO v=cY v.2.1:=by
    unfold bO
    rw[af_ k]
   rw[af_ hn,e2,(OY hr.1 hr.2).2.1]
  ·rw[ad_ hn,hrd,af_ rfl]
 rw[hW] at hb
 dsimp only at hb
 rw[ec] at hb
 rw[C7,hb]
 refine⟨rfl,?_,rfl⟩
 intro e
 rw[e] at hne
 exact hne rfl
theorem aae:fO (df 4)=true:=by
 have:=R5 (v:=vE 4) (by decide) (by decide) (by decide +kernel)
 exact this
abbrev ku:=List ae×List am×List ah
noncomputable def gR (s:List ae) (t:aa_):ac:=fN (jb t).1 (bc s (De s))
def Pq (v:ac):Bool:=ey v && decide (v.2.1≠0)
def Jx (v:ac):aa_:=if(bO v).size > 200 then df 4 else bO v
noncomputable def dg (st:ku) (q:ah) (x:aa_):Int×ku:=if(jc st.1 q x).length > 120 then(5,st) else(0,jc st.1 q x,st.2.1,aF st.2.2 [q])
noncomputable def cT (st:ku) (t:aa_):ku:=(st.1,aF st.2.1 (ni st.1 (fy ((⟨#[61]⟩:aa_)++t))),st.2.2)
noncomputable def bQ (x:aZ) (i:Int) (st:ku):Int×Int×ku :=
 if x.1=2 then((dg st x.2.1 x.2.2.1).1,i+1,(dg st x.2.1 x.2.2.1).2)
 else if x.1=1 then((dg (cT st x.2.2.1) x.2.1 (Jx (gR st.1 x.2.2.1))).1,i+1,(dg (cT st x.2.2.1) x.2.1 (Jx (gR st.1 x.2.2.1))).2)
 else if x.1=3 then(0,if Pq (gR st.1 x.2.2.1)=true then i+1 else i+x.2.2.2.1+1,cT st x.2.2.1)
 else if x.1=4 then(0,if Pq (gR st.1 x.2.2.1)=true then i - x.2.2.2.1 else i+1,cT st x.2.2.1)
 else(if Pq (gR st.1 x.2.2.1)=true then 4 else 0,i+1,cT st x.2.2.1)
noncomputable def cX (m:List aZ):Nat→Int→ku→Int×Nat×ku
 | 0,i,st=>if i < (m.length:Int) then(3,0,st) else(0,0,st)
 | n+1,i,st=>if i < (m.length:Int) then
   (if(bQ (m.getD i.toNat aW.dflt) i st).1=0 then((cX m n (bQ (m.getD i.toNat aW.dflt) i st).2.1 (bQ (m.getD i.toNat aW.dflt) i st).2.2).1,(cX m n (bQ (m.getD i.toNat aW.dflt) i st).2.1 (bQ (m.getD i.toNat aW.dflt) i st).2.2).2.1+1,(cX m n (bQ (m.getD i.toNat aW.dflt) i st).2.1 (bQ (m.getD i.toNat aW.dflt) i st).2.2).2.2)
    else((bQ (m.getD i.toNat aW.dflt) i st).1,1,(bQ (m.getD i.toNat aW.dflt) i st).2.2))
   else(0,0,st)
structure qD (n:Nat) (st:ku):Prop where
 sh:be st.1=true
 lk:st.2.1.length+8000*n≤9000000
 se:st.2.2.length+n≤900000
section
variable {s:List ae} (hs:be s=true) {t:aa_} (ht:jV t=true)
include hs ht
theorem Ps:aA (gR s t)=true∧(gR s t).1≠0:=by
 obtain⟨f,h1,h2,h3,h4⟩:=zj ht
 have hv:=la hs fun k hk=>Ju hs hk
 have e:gR s t=fN f (bc s (De s)):=by
  unfold gR
  rw[h2]
 rw[e]
 refine⟨Dc h3 hv,?_⟩
 unfold fN
 dsimp only
 split
 ·decide
 ·assumption
theorem abk {L:List am} {S:List ah} (hL:L.length≤10000000):oi t s L S=some ((gR s t,()),((s,aF L (ni s (fy ((⟨#[61]⟩:aa_)++t))),S,()),())):=by
 obtain⟨f,h1,h2,h3,h4⟩:=zj ht
 have hsm:=sN h3
 have hl:=hsm.1
 have hn:=bE hs
 have hv:=la hs fun k hk=>Ju hs hk
 have har:fy ((⟨#[61]⟩:aa_)++t)=ci f:=by
  unfold fy
  rw[h1]
  rfl
 have e:gR s t=fN f (bc s (De s)):=by
  unfold gR
  rw[h2]
 rw[Fl,(sM (x:=t) (by omega)).2.1,h2,ab_,YC hs (by omega) hL,ab_,har,e]
 dsimp only
 rw[HW hs,ab_,Oa (by rw[hJ]; omega) (fun c hc=>bn_ (dE (mz hv c hc)) (by decide)) (by omega) hsm.2.1 hsm.2.2 h3 hv]
 rfl
theorem abl {i j k:Int} {L:List am} {S:List ah}:we (s,i,j,k,L,S,()) t=some ((gR s t,()),()):=by
 obtain⟨f,h1,h2,h3,h4⟩:=zj ht
 have hsm:=sN h3
 have hl:=hsm.1
 have hn:=bE hs
 have hv:=la hs fun k hk=>Ju hs hk
 have e:gR s t=fN f (bc s (De s)):=by
  unfold gR
  rw[h2]
 rw[NH,(sM (x:=t) (by omega)).1,h2,ab_,WD hs,ab_,N9 (by rw[hJ]; omega) (fun c hc=>bn_ (dE (mz hv c hc)) (by decide)) (by omega) hsm.2.1 hsm.2.2,e]
 unfold LZ
 rw[af_ h3,af_ hv]
 rfl
end
section
variable {s:List ae} (hs:be s=true) {q:ah} {x:aa_} {L:List am} {S:List ah} (hS:S.length≤1000000)
include hs hS
theorem Y9:aG q x s L S=some ((decide ((dg (s,L,S) q x).1=0),()),(((dg (s,L,S) q x).2.1,(dg (s,L,S) q x).2.2.1,(dg (s,L,S) q x).2.2.2,()),())):=by
 have hn:=bE hs
 rw[He,Qu (fk hs) (by omega),ab_]
 unfold dg
 dsimp only
 by_cases h:(jc s q x).length > 120
 ·rw[aI (by omega),af_ h]
  rfl
 ·rw[aD (by omega),ad_ h,Z4 (by omega),ab_,rC]
  dsimp only
  by_cases hq:q∈S
  ·rw[bd_ hq,ad_ (by decide),af_ hq]
   rfl
  ·rw[be_ hq,af_ (by decide),ad_ hq,bg (by simp only[ac_]; omega)]
   rfl
theorem Za {i j:Int}:iz (s,i,j,0,L,S,()) q x=some ((((dg (s,L,S) q x).2.1,i,j,(dg (s,L,S) q x).1,(dg (s,L,S) q x).2.2.1,(dg (s,L,S) q x).2.2.2,()),()),()):=by
 have hn:=bE hs
 rw[Tf]
 dsimp only
 rw[KT (by omega),ab_]
 unfold dg
 dsimp only
 by_cases h:(jc s q x).length > 120
 ·rw[aI (by omega),af_ h]
 ·rw[aD (by omega),ad_ h,wU _ (by omega),ab_,rC]
  dsimp only
  by_cases hq:q∈S
  ·rw[bd_ hq,ad_ (by decide),af_ hq]
  ·rw[be_ hq,af_ (by decide),ad_ hq,bg (by simp only[bi_]; omega),da_,bg (by simp only[ac_]; omega)]
end
theorem K5 (st:ku) (q:ah) (x:aa_):(dg st q x).1=0∨(dg st q x).1=5:=by
 unfold dg
 split
 ·exact .inr rfl
 ·exact .inl rfl
section
variable {m:List aZ} (hm:jg m=true) {st:ku} {n:Nat} (hI:qD (n+1) st) {i:Int} (h0:0≤i) (h1:i < (m.length:Int)) {fuel steps:Int} (hb:0≤steps∧steps≤1000) (hf:steps≠fuel)
include hm hI h0 h1
theorem Uf : ∃ x,m[i.toNat]? = some x∧m.getD i.toNat aW.dflt=x∧oZ x i ((m.length:Int) - 1 - i)=true:=by
 have hi:i.toNat < m.length:=by omega
 refine⟨m.getD i.toNat aW.dflt,pD hi,rfl,?_⟩
 have:=YF hm (pD (d:=aW.dflt) hi)
 rw[show((i.toNat:Nat):Int)=i by omega] at this
 exact this
omit h0 h1 hm in
theorem R6 {q:ah} {x:aa_} (hq:bT q=true) (hx:x≠eS→fO x=true) {L:List am} (hL:L.length+8000*n≤9000000):qD n (dg (st.1,L,st.2.2) q x).2:=by
 have h2:=hI.sh
 have h3:=hI.se
 unfold dg
 dsimp only
 by_cases h:(jc st.1 q x).length > 120
 ·rw[af_ h]
  exact⟨h2,hL,by show st.2.2.length+n≤900000; omega⟩
 ·rw[ad_ h]
  have hl:=sR st.2.2 [q]
  rw[ac_] at hl
  exact⟨Qt h2 hq hx (by omega),hL,by show(aF st.2.2 [q]).length+n≤900000; omega⟩
omit h0 h1 hm in
theorem rH {t:aa_} (ht:jV t=true):(cT st t).2.1.length+8000*n≤9000000∧qD n (cT st t):=by
 obtain⟨f,h1,h2,h3,h4⟩:=zj ht
 have a1:=hI.lk
 have a2:=hI.se
 have har:(fy ((⟨#[61]⟩:aa_)++t)).length≤60:=pE (by rw[Jv]; omega)
 have hlen:=K1 hI.sh har
 have hl:=sR st.2.1 (ni st.1 (fy ((⟨#[61]⟩:aa_)++t)))
 have e:(cT st t).2.1.length+8000*n≤9000000:=by
  show(aF st.2.1 (ni st.1 (fy ((⟨#[61]⟩:aa_)++t)))).length+8000*n≤9000000
  omega
 exact⟨e,hI.sh,e,by show st.2.2.length+n≤900000; omega⟩
theorem YG {s:List ae} (hs:be s=true) {t:aa_} (ht:jV t=true):fO (Jx (gR s t))=true:=by
 obtain⟨e1,e2⟩:=Ps hs ht
 unfold Jx
 split
 ·exact aae
 ·exact R5 e1 e2 (by omega)
theorem wW:qD n (bQ (m.getD i.toNat aW.dflt) i st).2.2∧0≤(bQ (m.getD i.toNat aW.dflt) i st).2.1∧(bQ (m.getD i.toNat aW.dflt) i st).2.1≤(m.length:Int):=by
 obtain⟨x,hx,hxd,hst⟩:=Uf hm hI h0 h1
 rw[hxd]
 unfold oZ at hst
 unfold bQ
 have a1:=hI.lk
 by_cases k2:x.1=2
 ·rw[ad_ (by omega),af_ k2,ah_,ah_] at hst
  rw[af_ k2]
  refine⟨R6 (L:=st.2.1) hI hst.1.1 (fun hne => ?_) (by omega),by show 0≤i+1; omega,by show i+1≤_; omega⟩
  have:=hst.1.2
  unfold O5 at this
  rw[be_ hne,ct_] at this
  exact this
 ·rw[ad_ k2]
  by_cases k1:x.1=1
  ·rw[af_ k1,ah_,ah_] at hst
   rw[af_ k1]
   obtain⟨e1,e2⟩:=rH hI hst.1.2
   exact⟨R6 hI hst.1.1 (fun _=>YG hm hI h0 h1 hI.sh hst.1.2) e1,by show 0≤i+1; omega,by show i+1≤_; omega⟩
  ·rw[ad_ k1,ad_ k2] at hst
   rw[ad_ k1]
   by_cases k3:x.1=3
   ·rw[af_ k3,ah_,ah_] at hst
    rw[af_ k3]
    have hb:=bC.1 hst.2
    refine⟨(rH hI hst.1.2).2,?_,?_⟩ <;> dsimp only <;> split <;> omega
   ·rw[ad_ k3] at hst
    rw[ad_ k3]
    by_cases k4:x.1=4
    ·rw[af_ k4,ah_,ah_] at hst
     rw[af_ k4]
     have hb:=bC.1 hst.2
     refine⟨(rH hI hst.1.2).2,?_,?_⟩ <;> dsimp only <;> split <;> omega
    ·rw[ad_ k4] at hst
     rw[ad_ k4]
     by_cases k5:x.1=5
     ·rw[af_ k5,ah_,ah_] at hst
      exact⟨(rH hI hst.1.2).2,by show 0≤i+1; omega,by show i+1≤_; omega⟩
     ·rw[ad_ k5] at hst
      cases hst
include hb hf
theorem abM:ag m fuel steps i st.1 st.2.1 st.2.2=if(bQ (m.getD i.toNat aW.dflt) i st).1=0 then ag m fuel (steps+1) (bQ (m.getD i.toNat aW.dflt) i st).2.1 (bQ (m.getD i.toNat aW.dflt) i st).2.2.1 (bQ (m.getD i.toNat aW.dflt) i st).2.2.2.1 (bQ (m.getD i.toNat aW.dflt) i st).2.2.2.2
  else some (((bQ (m.getD i.toNat aW.dflt) i st).1,steps+1,()),(((bQ (m.getD i.toNat aW.dflt) i st).2.2.1,(bQ (m.getD i.toNat aW.dflt) i st).2.2.2.1,(bQ (m.getD i.toNat aW.dflt) i st).2.2.2.2,()),())):=by
 obtain⟨x,hx,hxd,hst⟩:=Uf hm hI h0 h1
 have hml:=K2 hm
 have a1:=hI.lk
 have a2:=hI.se
 have hfs:(steps == fuel)=false:=by rw[oQ,be_ hf]
 have w1:IntKind.i64.wrap (steps+1)=steps+1:=fx (by omega) (by omega)
 have w2:IntKind.i64.wrap (i+1)=i+1:=fx (by omega) (by omega)
 rw[hxd,je,aI h1,hfs,ad_ (by decide),bP h0 hx,w1,w2]
 unfold oZ at hst
 unfold bQ
 by_cases k2:x.1=2
 ·have hp:=Y9 hI.sh (q:=x.2.1) (x:=x.2.2.1) (L:=st.2.1) (S:=st.2.2) (by omega)
  rw[af_ k2,k2,ad_ (by decide),af_ (by decide),hp,ab_]
  dsimp only
  rcases K5 st x.2.1 x.2.2.1 with e | e
  ·rw[show dg (st.1,st.2.1,st.2.2) x.2.1 x.2.2.1=dg st x.2.1 x.2.2.1 from rfl,e,af_ rfl,ad_ (by decide)]
  ·rw[show dg (st.1,st.2.1,st.2.2) x.2.1 x.2.2.1=dg st x.2.1 x.2.2.1 from rfl,e,af_ (by decide),ad_ (by decide)]
 ·have hne:(x.1 != 2)=true:=by rw[bne_iff_ne]; exact k2
  have hw:jV x.2.2.1=true:=by
   by_cases k1:x.1=1
   ·rw[af_ k1,ah_,ah_] at hst
    exact hst.1.2
   ·rw[ad_ k1,ad_ k2] at hst
    by_cases k3:x.1=3
    ·rw[af_ k3,ah_,ah_] at hst
     exact hst.1.2
    ·rw[ad_ k3] at hst
     by_cases k4:x.1=4
     ·rw[af_ k4,ah_,ah_] at hst
      exact hst.1.2
     ·rw[ad_ k4] at hst
      by_cases k5:x.1=5
      ·rw[af_ k5,ah_,ah_] at hst
       exact hst.1.2
      ·rw[ad_ k5] at hst
       cases hst
  obtain⟨v1,v2⟩:=Ps hI.sh hw
  have htr:=lE (ca v1)
  have hvt:=Bh (ca v1)
  rw[af_ v1] at hvt
  obtain⟨l1,l2⟩:=rH hI hw
  rw[ad_ k2,af_ hne,abk hI.sh hw (by omega),ab_]
  dsimp only
  rw[htr,ab_]
  dsimp only
  unfold Pq
  by_cases k1:x.1=1
  ·have hp:=fun y=>Y9 hI.sh (q:=x.2.1) (x:=y) (L:=(cT st x.2.2.1).2.1) (S:=st.2.2) (by omega)
   have hp' : ∀ y,aG x.2.1 y st.1 (aF st.2.1 (ni st.1 (fy ((⟨#[61]⟩:aa_)++x.2.2.1)))) st.2.2=some ((decide ((dg (cT st x.2.2.1) x.2.1 y).1=0),()),(((dg (cT st x.2.2.1) x.2.1 y).2.1,(dg (cT st x.2.2.1) x.2.1 y).2.2.1,(dg (cT st x.2.2.1) x.2.1 y).2.2.2,()),())):=hp
   have e4:=oq (n:=4) (by decide) (by decide)
   have main : ∀ y,((aG x.2.1 y st.1 (aF st.2.1 (ni st.1 (fy ((⟨#[61]⟩:aa_)++x.2.2.1)))) st.2.2).bind fun z5=>(if(!z5.1.1)=true then(some ((5,(steps+1),()),(z5.2.1,()))) else(ag m fuel (steps+1) (i+1) z5.2.1.1 z5.2.1.2.1 z5.2.1.2.2.1)))=if(dg (cT st x.2.2.1) x.2.1 y).1=0 then ag m fuel (steps+1) (i+1) (dg (cT st x.2.2.1) x.2.1 y).2.1 (dg (cT st x.2.2.1) x.2.1 y).2.2.1 (dg (cT st x.2.2.1) x.2.1 y).2.2.2 else some (((dg (cT st x.2.2.1) x.2.1 y).1,steps+1,()),(((dg (cT st x.2.2.1) x.2.1 y).2.1,(dg (cT st x.2.2.1) x.2.1 y).2.2.1,(dg (cT st x.2.2.1) x.2.1 y).2.2.2,()),())):=by
    intro y
    rw[hp' y,ab_]
    dsimp only
    rcases K5 (cT st x.2.2.1) x.2.1 y with e | e
    ·rw[e,af_ rfl,ad_ (by decide)]
    ·rw[e,af_ (by decide),ad_ (by decide)]
   rw[af_ k1]
   simp only[k1,main,e4,hvt,ab_,beq_self_eq_true,ba_,show decide ((1:Int)≤2)=true from rfl,ite_self]
   unfold Jx
   by_cases hsz:(bO (gR st.1 x.2.2.1)).size > 200
   ·rw[aI (by omega),af_ hsz]
   ·rw[aD (by omega),ad_ hsz]
  ·rw[ad_ k1]
   have k1':(x.1 == 1)=false:=by rw[oQ,be_ k1]
   rw[ad_ k1,ad_ k2] at hst
   by_cases k3:x.1=3
   ·rw[af_ k3,ah_,ah_] at hst
    have hb3:=bC.1 hst.2
    have w3:IntKind.i64.wrap (ha_ hb_ (i+x.2.2.2.1)+1)=i+x.2.2.2.1+1:=by
     rw[fx (n:=i+x.2.2.2.1) (by omega) (by omega),fx (by omega) (by omega)]
    rw[af_ k3]
    simp only[k3,w3,show((3:Int) == 1)=false from rfl,show((3:Int) == 3)=true from rfl,show((3:Int) == 4)=false from rfl,show((3:Int) == 5)=false from rfl,show decide ((3:Int)≤2)=false from rfl,aj_,aw_,ba_,ai_]
    unfold cT
    by_cases hn:(gR st.1 x.2.2.1).2.1=0
    ·simp[hn]
    ·cases hi:ey (gR st.1 x.2.2.1) <;> simp[hn]
   ·have k3':(x.1 == 3)=false:=by rw[oQ,be_ k3]
    rw[ad_ k3] at hst
    rw[ad_ k3]
    by_cases k4:x.1=4
    ·rw[af_ k4,ah_,ah_] at hst
     have hb3:=bC.1 hst.2
     have w3:IntKind.i64.wrap (ha_ hb_ (i - IntKind.i64.wrap (x.2.2.2.1+1))+1)=i - x.2.2.2.1:=by
      rw[fx (n:=x.2.2.2.1+1) (by omega) (by omega),fx (n:=i - (x.2.2.2.1+1)) (by omega) (by omega),fx (by omega) (by omega)]
      omega
     rw[af_ k4]
     simp only[k4,w3,show((4:Int) == 1)=false from rfl,show((4:Int) == 3)=false from rfl,show((4:Int) == 4)=true from rfl,show((4:Int) == 5)=false from rfl,show decide ((4:Int)≤2)=false from rfl,aj_,aw_,ba_,ai_]
     unfold cT
     by_cases hn:(gR st.1 x.2.2.1).2.1=0
     ·simp[hn]
     ·cases hi:ey (gR st.1 x.2.2.1) <;> simp[hn]
    ·rw[ad_ k4] at hst
     rw[ad_ k4]
     by_cases k5:x.1=5
     ·simp only[k5,show((5:Int) == 1)=false from rfl,show((5:Int) == 3)=false from rfl,show((5:Int) == 4)=false from rfl,show((5:Int) == 5)=true from rfl,show decide ((5:Int)≤2)=false from rfl,aj_,aw_,ba_,ai_]
      unfold cT
      by_cases hn:(gR st.1 x.2.2.1).2.1=0
      ·simp[hn]
      ·cases hi:ey (gR st.1 x.2.2.1) <;> simp[hn]
     ·rw[ad_ k5] at hst
      cases hst
theorem abN {u v w:Int} {j1:List ae} {j2:List am} {j3:List ah}:aX m fuel u v w st.1 i steps 0 st.2.1 st.2.2 j1 j2 j3=aX m fuel u v w (bQ (m.getD i.toNat aW.dflt) i st).2.2.1 (bQ (m.getD i.toNat aW.dflt) i st).2.1 (steps+1) (bQ (m.getD i.toNat aW.dflt) i st).1 (bQ (m.getD i.toNat aW.dflt) i st).2.2.2.1 (bQ (m.getD i.toNat aW.dflt) i st).2.2.2.2 j1 j2 j3:=by
 obtain⟨x,hx,hxd,hst⟩:=Uf hm hI h0 h1
 have hml:=K2 hm
 have a1:=hI.lk
 have a2:=hI.se
 have hfs:(steps == fuel)=false:=by rw[oQ,be_ hf]
 have w1:IntKind.i64.wrap (steps+1)=steps+1:=fx (by omega) (by omega)
 have w2:IntKind.i64.wrap (i+1)=i+1:=fx (by omega) (by omega)
 conv=>lhs; rw[kn]
 rw[hxd,af_ (by rfl),aI h1,hfs,ad_ (by decide),bP h0 hx,w1,w2]
 unfold oZ at hst
 unfold bQ
 by_cases k2:x.1=2
 ·have hp:=Za hI.sh (q:=x.2.1) (x:=x.2.2.1) (L:=st.2.1) (S:=st.2.2) (by omega) (i:=i+1) (j:=steps+1)
  rw[af_ k2,k2,af_ (by decide),hp,ab_]
 ·have hne:(x.1 == 2)=false:=by rw[oQ,be_ k2]
  have hw:jV x.2.2.1=true:=by
   by_cases k1:x.1=1
   ·rw[af_ k1,ah_,ah_] at hst
    exact hst.1.2
   ·rw[ad_ k1,ad_ k2] at hst
    by_cases k3:x.1=3
    ·rw[af_ k3,ah_,ah_] at hst
     exact hst.1.2
    ·rw[ad_ k3] at hst
     by_cases k4:x.1=4
     ·rw[af_ k4,ah_,ah_] at hst
      exact hst.1.2
     ·rw[ad_ k4] at hst
      by_cases k5:x.1=5
      ·rw[af_ k5,ah_,ah_] at hst
       exact hst.1.2
      ·rw[ad_ k5] at hst
       cases hst
  obtain⟨f,_,_,_,hsz⟩:=zj hw
  obtain⟨v1,v2⟩:=Ps hI.sh hw
  have htr:=tS v1
  have hvt:=eP (ca v1)
  rw[af_ v1] at hvt
  have hbad:=cI (gR st.1 x.2.2.1)
  obtain⟨l1,l2⟩:=rH hI hw
  rw[ad_ k2,hne,ad_ (by decide),YD hI.sh (by omega) (by omega),ab_]
  dsimp only
  rw[abl hI.sh hw,ab_]
  dsimp only
  rw[htr,ab_]
  dsimp only
  unfold Pq
  by_cases k1:x.1=1
  ·have hp:=fun y=>Za hI.sh (q:=x.2.1) (x:=y) (L:=(cT st x.2.2.1).2.1) (S:=st.2.2) (by omega) (i:=i+1) (j:=steps+1)
   have hp' : ∀ y,iz (st.1,i+1,steps+1,0,aF st.2.1 (ni st.1 (fy ((⟨#[61]⟩:aa_)++x.2.2.1))),st.2.2,()) x.2.1 y=some ((((dg (cT st x.2.2.1) x.2.1 y).2.1,i+1,steps+1,(dg (cT st x.2.2.1) x.2.1 y).1,(dg (cT st x.2.2.1) x.2.1 y).2.2.1,(dg (cT st x.2.2.1) x.2.1 y).2.2.2,()),()),()):=hp
   have e4:=tP (n:=4) (by decide) (by decide)
   rw[af_ k1]
   simp only[k1,hp',e4,hvt,ab_,beq_self_eq_true,ba_,ite_self]
   unfold Jx
   by_cases hz:(bO (gR st.1 x.2.2.1)).size > 200
   ·rw[aI (by omega),af_ hz]
   ·rw[aD (by omega),ad_ hz]
  ·rw[ad_ k1]
   rw[ad_ k1,ad_ k2] at hst
   by_cases k3:x.1=3
   ·rw[af_ k3,ah_,ah_] at hst
    have hb3:=bC.1 hst.2
    have w3:IntKind.i64.wrap (i+1+x.2.2.2.1)=i+x.2.2.2.1+1:=by
     rw[fx (by omega) (by omega)]
     omega
    rw[af_ k3]
    simp only[k3,w3,show((3:Int) == 1)=false from rfl,show((3:Int) == 3)=true from rfl,show((3:Int) == 4)=false from rfl,show((3:Int) == 5)=false from rfl,aj_,aw_,ba_,ai_]
    unfold cT
    by_cases hn:(gR st.1 x.2.2.1).2.1=0
    ·cases hi:ey (gR st.1 x.2.2.1) <;> simp[hn]
    ·cases hi:ey (gR st.1 x.2.2.1) <;> simp[hn,hbad,v0]
   ·rw[ad_ k3] at hst
    rw[ad_ k3]
    by_cases k4:x.1=4
    ·rw[af_ k4,ah_,ah_] at hst
     have hb3:=bC.1 hst.2
     have w3:IntKind.i64.wrap (ha_ hb_ (i+1 - 1) - x.2.2.2.1)=i - x.2.2.2.1:=by
      rw[fx (n:=i+1 - 1) (by omega) (by omega),fx (by omega) (by omega)]
      omega
     rw[af_ k4]
     simp only[k4,w3,show((4:Int) == 1)=false from rfl,show((4:Int) == 3)=false from rfl,show((4:Int) == 4)=true from rfl,show((4:Int) == 5)=false from rfl,aj_,aw_,ba_,ai_]
     unfold cT
     by_cases hn:(gR st.1 x.2.2.1).2.1=0
     ·cases hi:ey (gR st.1 x.2.2.1) <;> simp[hn]
     ·cases hi:ey (gR st.1 x.2.2.1) <;> simp[hn,hbad,v0]
    ·rw[ad_ k4] at hst
     rw[ad_ k4]
     by_cases k5:x.1=5
     ·simp only[k5,show((5:Int) == 1)=false from rfl,show((5:Int) == 3)=false from rfl,show((5:Int) == 4)=false from rfl,show((5:Int) == 5)=true from rfl,aj_,aw_,ba_,ai_]
      unfold cT
      by_cases hn:(gR st.1 x.2.2.1).2.1=0
      ·cases hi:ey (gR st.1 x.2.2.1) <;> simp[hn]
      ·cases hi:ey (gR st.1 x.2.2.1) <;> simp[hn,hbad,v0]
     ·rw[ad_ k5] at hst
      cases hst
end
section
variable {m:List aZ} (hm:jg m=true) {fuel:Int} (hfu:0≤fuel∧fuel≤500)
include hm hfu
theorem Pt : ∀(n:Nat) (i steps:Int) (st:ku),qD n st→0≤i→i≤(m.length:Int)→0≤steps→fuel=steps+n→ag m fuel steps i st.1 st.2.1 st.2.2=some (((cX m n i st).1,steps+((cX m n i st).2.1:Int),()),(((cX m n i st).2.2.1,(cX m n i st).2.2.2.1,(cX m n i st).2.2.2.2,()),()))
 | 0,i,steps,st,hI,h0,h1,hp,hf=>by
  unfold cX
  rw[je]
  by_cases h:i < (m.length:Int)
  ·rw[aI h,af_ h,af_ (by rw[bt_]; omega)]
   dsimp only
   rw[show steps+((0:Nat):Int)=steps by omega]
  ·rw[aD h,ad_ h]
   dsimp only
   rw[show steps+((0:Nat):Int)=steps by omega]
 | n+1,i,steps,st,hI,h0,h1,hp,hf=>by
  by_cases h:i < (m.length:Int)
  ·obtain⟨q1,q2,q3⟩:=wW hm hI h0 h
   rw[abM hm hI h0 h (by omega) (by omega)]
   unfold cX
   rw[af_ h]
   by_cases hc:(bQ (m.getD i.toNat aW.dflt) i st).1=0
   ·rw[af_ hc,af_ hc,Pt n _ (steps+1) _ q1 q2 q3 (by omega) (by omega)]
    dsimp only
    rw[show ∀ k:Nat,steps+1+(k:Int)=steps+((k+1:Nat):Int) from fun k=>by omega]
   ·rw[ad_ hc,ad_ hc]
    rfl
  ·unfold cX
   rw[je,aD h,ad_ h]
   dsimp only
   rw[show steps+((0:Nat):Int)=steps by omega]
theorem Pu {u v w:Int} {j1:List ae} {j2:List am} {j3:List ah} : ∀(n:Nat) (i steps:Int) (st:ku),qD n st→0≤i→i≤(m.length:Int)→0≤steps→fuel=steps+n → ∃ j,aX m fuel u v w st.1 i steps 0 st.2.1 st.2.2 j1 j2 j3=some ((((cX m n i st).2.2.1,j,steps+((cX m n i st).2.1:Int),(cX m n i st).1,(cX m n i st).2.2.2.1,(cX m n i st).2.2.2.2,()),()),())
 | 0,i,steps,st,hI,h0,h1,hp,hf=>by
  unfold cX
  rw[kn,af_ (by rfl)]
  by_cases h:i < (m.length:Int)
  ·rw[aI h,af_ h,af_ (by rw[bt_]; omega)]
   dsimp only
   rw[show steps+((0:Nat):Int)=steps by omega]
   exact⟨_,rfl⟩
  ·rw[aD h,ad_ h]
   dsimp only
   rw[show steps+((0:Nat):Int)=steps by omega]
   exact⟨_,rfl⟩
 | n+1,i,steps,st,hI,h0,h1,hp,hf=>by
  by_cases h:i < (m.length:Int)
  ·obtain⟨q1,q2,q3⟩:=wW hm hI h0 h
   rw[abN hm hI h0 h (by omega) (by omega)]
   unfold cX
   rw[af_ h]
   by_cases hc:(bQ (m.getD i.toNat aW.dflt) i st).1=0
   ·obtain⟨j,e⟩:=Pu n (bQ (m.getD i.toNat aW.dflt) i st).2.1 (steps+1) (bQ (m.getD i.toNat aW.dflt) i st).2.2 q1 q2 q3 (by omega) (by omega)
    refine⟨j,?_⟩
    rw[hc,af_ rfl,e]
    dsimp only
    rw[show ∀ k:Nat,steps+1+(k:Int)=steps+((k+1:Nat):Int) from fun k=>by omega]
   ·refine⟨(bQ (m.getD i.toNat aW.dflt) i st).2.1,?_⟩
    rw[ad_ hc,kn,ad_ (by rw[bt_]; exact hc)]
    rfl
  ·unfold cX
   rw[kn,af_ (by rfl),aD h,ad_ h]
   dsimp only
   rw[show steps+((0:Nat):Int)=steps by omega]
   exact⟨_,rfl⟩
end
noncomputable def dM (s:List ae) (m:List aZ) (fuel:Int):Int×Nat×ku:=cX m fuel.toNat 0 (s,[],[])
noncomputable def mG (s:List ae) (m:List aZ) (fuel:Int):Int:=if be s=true then(if jg m=true∧cq fuel 0 400=true then 0 else 1) else 2
noncomputable def EJ (s:List ae) (m:List aZ) (fuel:Int):List ae×(Int×(Int×Unit)):=if mG s m fuel=0 then((if(dM s m fuel).1=0 then(dM s m fuel).2.2.1 else s),(dM s m fuel).1,((dM s m fuel).2.1:Int),()) else([],mG s m fuel,0,())
noncomputable def lkR (s:List ae) (m:List aZ) (fuel:Int):List am×(List ah×Unit):=if mG s m fuel=0 then((dM s m fuel).2.2.2.1,(dM s m fuel).2.2.2.2,()) else([],[],())
theorem sS {s:List ae} {m:List aZ} {fuel:Int} (h:mG s m fuel=0):be s=true∧jg m=true∧0≤fuel∧fuel≤400:=by
 unfold mG at h
 by_cases h1:be s=true
 ·rw[af_ h1] at h
  by_cases h2:jg m=true∧cq fuel 0 400=true
  ·have:=bC.1 h2.2
   exact⟨h1,h2.1,this⟩
  ·rw[ad_ h2] at h
   cases h
 ·rw[ad_ h1] at h
  cases h
theorem qD.first {s:List ae} (hs:be s=true) {n:Nat} (hn:n≤500):qD n (s,[],[]):=⟨hs,by show 0+8000*n≤9000000; omega,by show 0+n≤900000; omega⟩
section
variable {s:List ae} (h1 : ∀ c∈s,c.2.1.size≤9223372036854775807) (h2:s.length≤1000000000) {m:List aZ} (h3:m.length≤2000000) (h4 : ∀ x∈m,x.2.2.1.size≤1000000000) {fuel:Int}
include h1 h2 h3 h4
theorem EK:zU s m fuel=some ((mG s m fuel,()),()):=by
 rw[Qa,sc h1 h2,ab_]
 unfold mG
 cases be s with
 | false=>rfl
 | true =>
  dsimp only
  rw[ad_ (by decide),af_ rfl,Qx h3 h4,ab_]
  cases jg m with
  | false=>rfl
  | true =>
   dsimp only
   rw[ad_ (by decide),gj,ab_]
   cases cq fuel 0 400 with
   | false=>rfl
   | true=>rfl
theorem WH:M3 s m fuel=some ((mG s m fuel,()),()):=by
 rw[Vt,EC h1 (by omega),ab_]
 unfold mG
 cases be s with
 | false=>rfl
 | true =>
  dsimp only
  rw[ad_ (by decide),af_ rfl,EI h3 h4,ab_]
  cases jg m with
  | false=>rfl
  | true =>
   dsimp only
   rw[ad_ (by decide),jR,ab_]
   cases cq fuel 0 400 with
   | false=>rfl
   | true=>rfl
omit h1 h2 h3 h4 in
theorem R7 (h:mG s m fuel=0):qf m fuel s [] []=some (((dM s m fuel).1,((dM s m fuel).2.1:Int),()),(((dM s m fuel).2.2.1,(dM s m fuel).2.2.2.1,(dM s m fuel).2.2.2.2,()),())):=by
 obtain⟨hs,hm,hf0,hf1⟩:=sS h
 have e:=Pt hm (fuel:=fuel) ⟨hf0,by omega⟩ fuel.toNat 0 0 (s,[],[]) (qD.first hs (by omega)) (cj_ _) (by omega) (cj_ _) (by omega)
 have e2:lU m fuel 0 0 s [] []=ag m fuel 0 0 s [] []:=by
  conv=>rhs; rw[je]
  rw[CB]
  by_cases q1:decide ((0:Int) < (m.length:Int))=true
  ·rw[af_ q1,af_ q1]
   by_cases q2:((0:Int) == fuel)=true
   ·rw[af_ q2,af_ q2]
   ·rw[ad_ q2,ad_ q2]
    refine congrArg (ix m 0 aW.dflt) (funext fun y1 => ?_)
    by_cases q3:(y1.1 != 2)=true
    ·rw[af_ q3,af_ q3]
    ·have q4:y1.1=2:=by
      rcases Decidable.em (y1.1=2) with h | h
      ·exact h
      ·exact bk_ (bne_iff_ne.2 h) q3
     rw[ad_ q3,ad_ q3,aI (by omega),aI (by omega)]
  ·rw[ad_ q1,ad_ q1]
 rw[Hf,e2]
 refine Eq.trans e ?_
 rw[Int.zero_add]
 rfl
omit h1 h2 h3 h4 in
theorem aaf (h:mG s m fuel=0) : ∃ j,Iq s m fuel=some ((((dM s m fuel).2.2.1,j,((dM s m fuel).2.1:Int),(dM s m fuel).1,(dM s m fuel).2.2.2.1,(dM s m fuel).2.2.2.2,()),()),()):=by
 obtain⟨hs,hm,hf0,hf1⟩:=sS h
 have hn:=bE hs
 obtain⟨j,e⟩:=Pu hm (fuel:=fuel) ⟨hf0,by omega⟩ (u:=0) (v:=0) (w:=0) (j1:=[]) (j2:=[]) (j3:=[]) fuel.toNat 0 0 (s,[],[]) (qD.first hs (by omega)) (cj_ _) (by omega) (cj_ _) (by omega)
 refine⟨j,?_⟩
 have e2:zZ m fuel 0 0 0 0 0 0 [] [] [] s [] []=aX m fuel 0 0 0 s 0 0 0 [] [] [] [] []:=by
  conv=>rhs; rw[kn]
  rw[LK]
 rw[Ts,bg (by simp only[bi_]; omega),da_,e2]
 refine Eq.trans e ?_
 rw[Int.zero_add]
 rfl
theorem Df:wc s m fuel=some (EJ s m fuel,()):=by
 rw[ND,EK h1 h2 h3 h4,ab_]
 unfold EJ
 by_cases h:mG s m fuel=0
 ·have hn:=bE (sS h).1
  rw[af_ h]
  dsimp only
  rw[ad_ (by rw[bne_iff_ne]; exact fun x=>x h),xA (by omega),ab_]
  dsimp only
  rw[R7 h,ab_]
  dsimp only
  by_cases hc:(dM s m fuel).1=0
  ·rw[ad_ (by rw[bne_iff_ne]; exact fun x=>x hc),af_ hc,hc]
  ·rw[af_ (by rw[bne_iff_ne]; exact hc),ad_ hc]
   rfl
 ·rw[ad_ h]
  dsimp only
  rw[af_ (by rw[bne_iff_ne]; exact h)]
theorem Pv:Co s m fuel=some (EJ s m fuel,()):=by
 rw[NI,WH h1 h2 h3 h4,ab_]
 unfold EJ
 by_cases h:mG s m fuel=0
 ·have hn:=bE (sS h).1
  obtain⟨j,e⟩:=aaf h
  rw[af_ h]
  dsimp only
  rw[ad_ (by rw[bne_iff_ne]; exact fun x=>x h),e,ab_]
  dsimp only
  by_cases hc:(dM s m fuel).1=0
  ·rw[ad_ (by rw[bne_iff_ne]; exact fun x=>x hc),af_ hc,hc]
  ·rw[af_ (by rw[bne_iff_ne]; exact hc),ad_ hc,bg (by simp only[bi_]; omega)]
   rfl
 ·rw[ad_ h]
  dsimp only
  rw[af_ (by rw[bne_iff_ne]; exact h)]
theorem Ug:Ir s m fuel=some (lkR s m fuel,()):=by
 rw[Tt,EK h1 h2 h3 h4,ab_]
 unfold lkR
 by_cases h:mG s m fuel=0
 ·have hn:=bE (sS h).1
  rw[af_ h]
  dsimp only
  rw[ad_ (by rw[bne_iff_ne]; exact fun x=>x h),xA (by omega),ab_]
  dsimp only
  rw[R7 h,ab_]
 ·rw[ad_ h]
  dsimp only
  rw[af_ (by rw[bne_iff_ne]; exact h)]
end
section
variable {s t:List ae} (hs:be s=true) (ht:be t=true)
include hs ht
end
end Go.Proofs.YthbkdfcmjmmpgaaGreatDoor.Abs
