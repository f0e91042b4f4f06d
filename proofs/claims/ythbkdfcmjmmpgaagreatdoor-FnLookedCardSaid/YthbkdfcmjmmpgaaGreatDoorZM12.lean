/- Plain laws: areas that are looked at: the reference's side. -/
import Derived.Test.YthbkdfcmjmmpgaaGreatDoorZM11
import Derived.Test.YthbkdfcmjmmpgaaGreatDoorZM9
import Derived.Test.YthbkdfcmjmmpgaaGreatDoorZM10
import Derived.Test.YthbkdfcmjmmpgaaGreatDoorZM6
set_option linter.unusedVariables false
set_option linter.unusedSimpArgs false
set_option linter.unusedSectionVars false
open Bool renaming and_eq_true→ag_,eq_iff_iff→bw_,false_eq_true→ak_,false_or→cz_,or_eq_true→cx_
open ByteArray renaming size_append→fo_,toList→ah_
open Go.IntKind renaming i64→hf_,wrap→he_
open Int renaming le_refl→co_,toNat_natCast→ca_,toNat→ap_
open List renaming append_nil→bv_,foldl_cons→en_,getD_eq_getElem?_getD→ao_,getD→aw_,getElem?_append_left→bz_,getElem?_eq_some_iff→ax_,length_append→af_,length_cons→aj_,length_nil→bl_,length_singleton→ad_,mem_append_left→cq_,mem_append_right→ct_,mem_append→bo_,mem_cons_of_mem→ar_,mem_cons→bi_,mem_flatMap→eo_,mem_map→ea_,mem_singleton→be_,nil_append→df_,range→bs_
open List.Pairwise renaming sublist→gp_
open Nat renaming le_refl→aq_,le_trans→bq_
open Option renaming bind_some→ab_
open Option.some renaming injEq→bd_
open _root_ renaming ByteArray→aa_,absurd→bh_,beq_iff_eq→bx_,decide_eq_false→bf_,decide_eq_true_eq→ai_,decide_eq_true→bb_,if_false→av_,if_neg→ac_,if_pos→ae_,if_true→ba_
namespace Go.Proofs.YthbkdfcmjmmpgaaGreatDoor.Abs
open Go
structure oM (s:List ae) (ar todo:List ak):Prop where
 ext : ∃ ex,todo=ar++ex∧ex.Nodup ∧ ∀ x∈ex,x ∉ ar∧x∈fL s ar
theorem oM.len {s:List ae} {ar todo:List ak} (h:oM s ar todo):todo.length≤ar.length+(fL s ar).length:=by
 obtain⟨ex,e,hd,hx⟩:=h.ext
 have:=tg ex (fL s ar) hd fun x h=>(hx x h).2
 rw[e,af_]
 omega
theorem oM.add {s:List ae} {ar:List ak} : ∀(ks todo:List ak),oM s ar todo→(∀ x∈ks,x∈fL s ar)→oM s ar (aD todo ks)
 | [],todo,h,_=>h
 | k :: ks,todo,h,hk=>by
  unfold aD
  by_cases e:k∈todo
  ·rw[ae_ e]
   exact oM.add ks todo h fun x hx=>hk x (ar_ _ hx)
  ·rw[ac_ e]
   refine oM.add ks _ ?_ fun x hx=>hk x (ar_ _ hx)
   obtain⟨ex,e1,hd,hx⟩:=h.ext
   refine⟨ex++[k],by rw[e1]; simp,?_,fun x h => ?_⟩
   ·rw[List.nodup_append]
    refine⟨hd,by simp,fun a ha b hb => ?_⟩
    rw[be_.1 hb]
    intro c
    exact e (e1 ▸ ct_ _ (c ▸ ha))
   ·rcases bo_.1 h with h | h
    ·exact hx x h
    ·rw[be_.1 h]
     exact⟨fun c=>e (e1 ▸ cq_ _ c),hk k (by simp)⟩
section
variable {i k j:Nat} {at' steps code:Int} {z1 z2 z3:Int} {sets:List am} {x0:List ae} {x1:List ak} {x2:List am} {s:List ae}
theorem PZ {looks todo more:List ak} (ht:todo.length≤1000000) {a:ak} (hm:more[j]? = some a) : ∀(ys pre:List ak) (b:Bool),todo=pre++ys →
  mF (i:Int) (k:Int) (j:Int) b (pre.length:Int) s at' steps code sets z1 z2 z3 todo more looks x0 x1 x2=if(b || decide (a∈ys))=true then ji (i:Int) (k:Int) (he_ hf_ ((j:Int)+1)) s at' steps code sets z1 z2 z3 todo more looks x0 x1 x2 else ji (i:Int) (k:Int) (he_ hf_ ((j:Int)+1)) s at' steps code sets z1 z2 z3 (todo++[a]) more looks x0 x1 x2
 | [],pre,b,h=>by
  have hj:=(ax_.1 hm).1
  have hg:aw_ more (ap_ (j:Int)) ax.dflt=a:=by
   rw[ca_,ao_,hm]
   rfl
  rw[wU,aE (br h),bO (nn _) (by omega),hg,bi (by simp only[ad_]; omega)]
  cases b <;> simp
 | y :: ys,pre,b,h=>by
  have hj:=(ax_.1 hm).1
  have hg:aw_ more (ap_ (j:Int)) ax.dflt=a:=by
   rw[ca_,ao_,hm]
   rfl
  have hgy:aw_ todo (ap_ (pre.length:Int)) ax.dflt=y:=by rw[h]; exact iL
  rw[wU,aJ (bF h),aM h (by omega),gH h,bO (nn _) (by omega),hg,hgy,Gr,PZ ht hm ys _ true (aC h),PZ ht hm ys _ _ (aC h)]
  cases b with
  | true=>simp
  | false =>
   rw[ac_ (by decide)]
   have e:(decide (y=a) || decide (a∈ys))=(false || decide (a∈y :: ys)):=by
    rw[cz_,bw_,cx_,ai_,ai_,ai_,bi_]
    constructor
    ·rintro(e | e)
     ·exact .inl e.symm
     ·exact .inr e
    ·rintro(e | e)
     ·exact .inl e.symm
     ·exact .inr e
   rw[e]
theorem J6 {looks todo more:List ak} (ht:todo.length≤1000000) {a:ak} (hm:more[j]? = some a) : ∀(ys pre:List ak) (b:Bool),todo=pre++ys →
  lA (i:Int) (k:Int) (j:Int) b (pre.length:Int) s at' steps code looks sets z1 z2 z3 todo more x0 x1 x2=if(b || decide (a∈ys))=true then ie (i:Int) (k:Int) (he_ hf_ ((j:Int)+1)) s at' steps code looks sets z1 z2 z3 todo more x0 x1 x2 else ie (i:Int) (k:Int) (he_ hf_ ((j:Int)+1)) s at' steps code looks sets z1 z2 z3 (todo++[a]) more x0 x1 x2
 | [],pre,b,h=>by
  have hj:=(ax_.1 hm).1
  have hg:aw_ more (ap_ (j:Int)) ax.dflt=a:=by
   rw[ca_,ao_,hm]
   rfl
  rw[vF,aE (br h),bO (nn _) (by omega),hg,bi (by simp only[ad_]; omega)]
  cases b <;> simp
 | y :: ys,pre,b,h=>by
  have hj:=(ax_.1 hm).1
  have hg:aw_ more (ap_ (j:Int)) ax.dflt=a:=by
   rw[ca_,ao_,hm]
   rfl
  have hgy:aw_ todo (ap_ (pre.length:Int)) ax.dflt=y:=by rw[h]; exact iL
  rw[vF,aJ (bF h),aM h (by omega),gH h,bO (nn _) (by omega),hg,hgy,Gr,J6 ht hm ys _ true (aC h),J6 ht hm ys _ _ (aC h)]
  cases b with
  | true=>simp
  | false =>
   rw[ac_ (by decide)]
   have e:(decide (y=a) || decide (a∈ys))=(false || decide (a∈y :: ys)):=by
    rw[cz_,bw_,cx_,ai_,ai_,ai_,bi_]
    constructor
    ·rintro(e | e)
     ·exact .inl e.symm
     ·exact .inr e
    ·rintro(e | e)
     ·exact .inl e.symm
     ·exact .inr e
   rw[e]
theorem P0 {looks more:List ak} (hm:more.length≤60) : ∀(ys pre todo:List ak),more=pre++ys→todo.length+ys.length≤100000 →
  ji (i:Int) (k:Int) (pre.length:Int) s at' steps code sets z1 z2 z3 todo more looks x0 x1 x2=d9 (i:Int) (he_ hf_ ((k:Int)+1)) s at' steps code sets z1 z2 z3 (aD todo ys) looks x0 x1 x2
 | [],pre,todo,h,hb=>by
  rw[wS,aE (br h)]
  rfl
 | y :: ys,pre,todo,h,hb=>by
  rw[aj_] at hb
  have hg:more[pre.length]? = some y:=by rw[h]; simp
  have h22:=PZ (i:=i) (k:=k) (j:=pre.length) (at':=at') (steps:=steps) (code:=code) (z1:=z1) (z2:=z2) (z3:=z3) (sets:=sets) (x0:=x0) (x1:=x1) (x2:=x2) (s:=s) (looks:=looks) (todo:=todo) (by omega) hg todo [] false rfl
  rw[wS,aJ (bF h)]
  refine Eq.trans h22 ?_
  rw[cz_,aM h (by omega)]
  unfold aD
  by_cases e:y∈todo
  ·rw[bb_ e,ae_ rfl,ae_ e]
   exact P0 hm ys _ todo (aC h) (by omega)
  ·rw[bf_ e,ac_ (by decide),ac_ e]
   exact P0 hm ys _ _ (aC h) (by simp only[af_,ad_]; omega)
theorem J7 {looks more:List ak} (hm:more.length≤60) : ∀(ys pre todo:List ak),more=pre++ys→todo.length+ys.length≤100000 →
  ie (i:Int) (k:Int) (pre.length:Int) s at' steps code looks sets z1 z2 z3 todo more x0 x1 x2=ic (i:Int) (he_ hf_ ((k:Int)+1)) s at' steps code looks sets z1 z2 z3 (aD todo ys) x0 x1 x2
 | [],pre,todo,h,hb=>by
  rw[vD,aE (br h)]
  rfl
 | y :: ys,pre,todo,h,hb=>by
  rw[aj_] at hb
  have hg:more[pre.length]? = some y:=by rw[h]; simp
  have h22:=J6 (i:=i) (k:=k) (j:=pre.length) (at':=at') (steps:=steps) (code:=code) (z1:=z1) (z2:=z2) (z3:=z3) (sets:=sets) (x0:=x0) (x1:=x1) (x2:=x2) (s:=s) (looks:=looks) (todo:=todo) (by omega) hg todo [] false rfl
  rw[vD,aJ (bF h)]
  refine Eq.trans h22 ?_
  rw[cz_,aM h (by omega)]
  unfold aD
  by_cases e:y∈todo
  ·rw[bb_ e,ae_ rfl,ae_ e]
   exact J7 hm ys _ todo (aC h) (by omega)
  ·rw[bf_ e,ac_ (by decide),ac_ e]
   exact J7 hm ys _ _ (aC h) (by simp only[af_,ad_]; omega)
section
variable (hs:aO s=true) {ar:List ak} (ha:ar.length≤60)
include hs ha
theorem P1 {looks:List ak} {a:ak} : ∀(ys pre:List ae) (todo:List ak),s=pre++ys→oM s ar todo→todo[i]? = some a →
  d9 (i:Int) (pre.length:Int) s at' steps code sets z1 z2 z3 todo looks x0 x1 x2=mE (he_ hf_ ((i:Int)+1)) s at' steps code sets z1 z2 z3 (ys.foldl (xj a) todo) looks x0 x1 x2
 | [],pre,todo,h,hI,hi=>by
  rw[wR,aE (br h)]
  rfl
 | y :: ys,pre,todo,h,hI,hi=>by
  have hn:=bB hs
  have hl:=hI.len
  have hu:=uA hs ha
  have hi1:=(ax_.1 hi).1
  have hys:y∈s:=by rw[h]; simp
  have hy:y.2.1.size≤9223372036854775807:=iJ hs y hys
  have hg:aw_ todo (ap_ (i:Int)) ax.dflt=a:=by
   rw[ca_,ao_,hi]
   rfl
  have har:=pM hy
  rw[wR,aJ (bF h),bK h,bO (nn _) (by omega),hg,qC,ab_,bK h,sA hy,ab_,aM h (by omega),en_]
  dsimp only
  rw[show xj a todo y=if cB a y.1=true then aD todo (eR y.2.1) else todo from rfl]
  by_cases e:cB a y.1=true
  ·have h18:=P0 (i:=i) (k:=pre.length) (at':=at') (steps:=steps) (code:=code) (z1:=z1) (z2:=z2) (z3:=z3) (sets:=sets) (x0:=x0) (x1:=x1) (x2:=x2) (s:=s) (looks:=looks) (more:=eR y.2.1) har (eR y.2.1) [] todo rfl (by omega)
   obtain⟨ex,hex⟩:=kn (eR y.2.1) todo
   rw[e,ac_ (by decide),ae_ rfl]
   refine Eq.trans h18 ?_
   rw[aM h (by omega)]
   refine P1 ys _ _ (aC h) (hI.add _ _ fun x hx=>ct_ _ (eo_.2 ⟨y,hys,hx⟩)) ?_
   rw[hex,bz_ hi1]
   exact hi
  ·have e:cB a y.1=false:=by simpa using e
   rw[e,ae_ (by decide),ac_ (by decide)]
   exact P1 ys _ _ (aC h) hI hi
theorem J8 {looks:List ak} {a:ak} : ∀(ys pre:List ae) (todo:List ak),s=pre++ys→oM s ar todo→todo[i]? = some a →
  ic (i:Int) (pre.length:Int) s at' steps code looks sets z1 z2 z3 todo x0 x1 x2=lP (he_ hf_ ((i:Int)+1)) s at' steps code looks sets z1 z2 z3 (ys.foldl (xj a) todo) x0 x1 x2
 | [],pre,todo,h,hI,hi=>by
  rw[vC,aE (br h)]
  rfl
 | y :: ys,pre,todo,h,hI,hi=>by
  have hn:=bB hs
  have hl:=hI.len
  have hu:=uA hs ha
  have hi1:=(ax_.1 hi).1
  have hys:y∈s:=by rw[h]; simp
  have hy:y.2.1.size≤9223372036854775807:=iJ hs y hys
  have hg:aw_ todo (ap_ (i:Int)) ax.dflt=a:=by
   rw[ca_,ao_,hi]
   rfl
  have har:=pM hy
  rw[vC,aJ (bF h),bK h,bO (nn _) (by omega),hg,qC,ab_,bK h,sA hy,ab_,aM h (by omega),en_]
  dsimp only
  rw[show xj a todo y=if cB a y.1=true then aD todo (eR y.2.1) else todo from rfl]
  by_cases e:cB a y.1=true
  ·have h18:=J7 (i:=i) (k:=pre.length) (at':=at') (steps:=steps) (code:=code) (z1:=z1) (z2:=z2) (z3:=z3) (sets:=sets) (x0:=x0) (x1:=x1) (x2:=x2) (s:=s) (looks:=looks) (more:=eR y.2.1) har (eR y.2.1) [] todo rfl (by omega)
   obtain⟨ex,hex⟩:=kn (eR y.2.1) todo
   rw[e,ac_ (by decide),ae_ rfl]
   refine Eq.trans h18 ?_
   rw[aM h (by omega)]
   refine J8 ys _ _ (aC h) (hI.add _ _ fun x hx=>ct_ _ (eo_.2 ⟨y,hys,hx⟩)) ?_
   rw[hex,bz_ hi1]
   exact hi
  ·have e:cB a y.1=false:=by simpa using e
   rw[e,ae_ (by decide),ac_ (by decide)]
   exact J8 ys _ _ (aC h) hI hi
end
theorem U4 {looks todo:List ak} (ht:todo.length≤100000) (hl:looks.length≤100000000) {a:ak} (hi:todo[i]? = some a) : ∀(ys pre:List ak) (b:Bool),looks=pre++ys →
  oi (i:Int) b (pre.length:Int) s at' steps code looks sets z1 z2 z3 todo x0 x1 x2=if(b || decide (a∈ys))=true then ic (i:Int) 0 s at' steps code looks sets z1 z2 z3 todo x0 x1 x2 else d9 (i:Int) 0 s at' steps code sets z1 z2 z3 todo (looks++[a]) x0 x1 x2
 | [],pre,b,h=>by
  have hi1:=(ax_.1 hi).1
  have hg:aw_ todo (ap_ (i:Int)) ax.dflt=a:=by
   rw[ca_,ao_,hi]
   rfl
  rw[zh,aE (br h),bi (by simp only[bl_]; omega),bO (nn _) (by omega),hg,df_,bi (by simp only[ad_]; omega)]
  cases b <;> simp
 | y :: ys,pre,b,h=>by
  have hi1:=(ax_.1 hi).1
  have hg:aw_ todo (ap_ (i:Int)) ax.dflt=a:=by
   rw[ca_,ao_,hi]
   rfl
  rw[zh,aJ (bF h),aM h (by omega),bK h,bO (nn _) (by omega),hg,Gr,U4 ht hl hi ys _ true (aC h),U4 ht hl hi ys _ _ (aC h)]
  cases b with
  | true=>simp
  | false =>
   rw[ac_ (by decide)]
   have e:(decide (y=a) || decide (a∈ys))=(false || decide (a∈y :: ys)):=by
    rw[cz_,bw_,cx_,ai_,ai_,ai_,bi_]
    constructor
    ·rintro(e | e)
     ·exact .inl e.symm
     ·exact .inr e
    ·rintro(e | e)
     ·exact .inl e.symm
     ·exact .inr e
   rw[e]
theorem P2 {looks todo:List ak} (ht:todo.length≤100000) (hl:looks.length≤100000000) {a:ak} (hi:todo[i]? = some a) : ∀(ys pre:List ak) (b:Bool),looks=pre++ys →
  mG (i:Int) b (pre.length:Int) s at' steps code sets z1 z2 z3 todo looks x0 x1 x2=if(b || decide (a∈ys))=true then d9 (i:Int) 0 s at' steps code sets z1 z2 z3 todo looks x0 x1 x2 else d9 (i:Int) 0 s at' steps code sets z1 z2 z3 todo (looks++[a]) x0 x1 x2
 | [],pre,b,h=>by
  have hi1:=(ax_.1 hi).1
  have hg:aw_ todo (ap_ (i:Int)) ax.dflt=a:=by
   rw[ca_,ao_,hi]
   rfl
  rw[wV,aE (br h),bi (by simp only[bl_]; omega),bO (nn _) (by omega),hg,df_,bi (by simp only[ad_]; omega)]
  cases b <;> simp
 | y :: ys,pre,b,h=>by
  have hi1:=(ax_.1 hi).1
  have hg:aw_ todo (ap_ (i:Int)) ax.dflt=a:=by
   rw[ca_,ao_,hi]
   rfl
  have hgy:aw_ looks (ap_ (pre.length:Int)) ax.dflt=y:=by rw[h]; exact iL
  rw[wV,aJ (bF h),aM h (by omega),gH h,bO (nn _) (by omega),hg,hgy,Gr,P2 ht hl hi ys _ true (aC h),P2 ht hl hi ys _ _ (aC h)]
  cases b with
  | true=>simp
  | false =>
   rw[ac_ (by decide)]
   have e:(decide (y=a) || decide (a∈ys))=(false || decide (a∈y :: ys)):=by
    rw[cz_,bw_,cx_,ai_,ai_,ai_,bi_]
    constructor
    ·rintro(e | e)
     ·exact .inl e.symm
     ·exact .inr e
    ·rintro(e | e)
     ·exact .inl e.symm
     ·exact .inr e
   rw[e]
end
section
variable {at' steps code:Int} {z1 z2 z3:Int} {sets:List am} {x0:List ae} {x1:List ak} {x2:List am} {s:List ae} (hs:aO s=true) {ar:List ak} (ha:ar.length≤60) {L:List ak} (hL:L.length≤10000000)
include hs ha hL
theorem Xw (n:Nat) (pre:List ak) :
  lP (pre.length:Int) s at' steps code (aD L pre) sets z1 z2 z3 (pre++[]) x0 x1 x2=some (((s,at',steps,code,aD L (jX s n (aD [] pre).length (aD [] (pre++[]))),sets,()),()),()) ∧
  mE (pre.length:Int) s at' steps code sets z1 z2 z3 (pre++[]) (aD L pre) x0 x1 x2=some (((s,at',steps,code,aD L (jX s n (aD [] pre).length (aD [] (pre++[]))),sets,()),()),()):=by
  have e1:jX s n (aD [] pre).length (aD [] pre)=aD [] pre:=by
   cases n with
   | zero=>rfl
   | succ n =>
    unfold jX
    rw[List.getElem?_eq_none (aq_ _)]
  rw[zf,wT,bv_,aE (by omega),aE (by omega),e1,ab7]
  exact⟨rfl,rfl⟩
theorem aaZ : ∀(m n:Nat) (pre ys:List ak),oM s ar (pre++ys)→(∀ b∈pre,∀ x∈gn s b,x∈pre++ys)→(fL s ar).length≤(aD [] pre).length+n→n*100000+ys.length≤m →
  lP (pre.length:Int) s at' steps code (aD L pre) sets z1 z2 z3 (pre++ys) x0 x1 x2=some (((s,at',steps,code,aD L (jX s n (aD [] pre).length (aD [] (pre++ys))),sets,()),()),()) ∧
  mE (pre.length:Int) s at' steps code sets z1 z2 z3 (pre++ys) (aD L pre) x0 x1 x2=some (((s,at',steps,code,aD L (jX s n (aD [] pre).length (aD [] (pre++ys))),sets,()),()),()):=by
 intro m
 induction m with
 | zero =>
  intro n pre ys hT hc hn hm
  cases ys with
  | nil=>exact Xw hs ha hL n pre
  | cons y ys =>
   rw[aj_] at hm
   omega
 | succ m ih =>
  intro n pre ys hT hc hn hm
  cases ys with
  | nil=>exact Xw hs ha hL n pre
  | cons y ys =>
   rw[aj_] at hm
   have hlen:=hT.len
   have hu:=uA hs ha
   rw[af_,aj_] at hlen
   have hLl:=tf L pre
   have hi:(pre++y :: ys)[pre.length]? = some y:=by simp
   have hlt:(pre.length:Int) < ((pre++y :: ys).length:Int):=by simp only[af_,aj_]; omega
   have hw:IntKind.i64.wrap ((pre.length:Int)+1)=((pre++[y]).length:Int):=by
    rw[fW (by omega) (by omega)]
    simp
   have h7:=U4 (i:=pre.length) (at':=at') (steps:=steps) (code:=code) (z1:=z1) (z2:=z2) (z3:=z3) (sets:=sets) (x0:=x0) (x1:=x1) (x2:=x2) (s:=s) (looks:=aD L pre) (todo:=pre++y :: ys) (by rw[af_,aj_]; omega) (by omega) hi (aD L pre) [] false rfl
   have h7':=P2 (i:=pre.length) (at':=at') (steps:=steps) (code:=code) (z1:=z1) (z2:=z2) (z3:=z3) (sets:=sets) (x0:=x0) (x1:=x1) (x2:=x2) (s:=s) (looks:=aD L pre) (todo:=pre++y :: ys) (by rw[af_,aj_]; omega) (by omega) hi (aD L pre) [] false rfl
   have h13:=fun lk=>P1 (i:=pre.length) (at':=at') (steps:=steps) (code:=code) (z1:=z1) (z2:=z2) (z3:=z3) (sets:=sets) (x0:=x0) (x1:=x1) (x2:=x2) hs ha (looks:=lk) s [] (pre++y :: ys) rfl hT hi
   have h13':=fun lk=>J8 (i:=pre.length) (at':=at') (steps:=steps) (code:=code) (z1:=z1) (z2:=z2) (z3:=z3) (sets:=sets) (x0:=x0) (x1:=x1) (x2:=x2) hs ha (looks:=lk) s [] (pre++y :: ys) rfl hT hi
   rw[Bh] at h13 h13'
   obtain⟨ex,hex⟩:=kn (gn s y) (pre++y :: ys)
   have hT':oM s ar (aD (pre++y :: ys) (gn s y)):=hT.add _ _ fun x hx=>Bi hx
   have hsplit:aD (pre++y :: ys) (gn s y)=(pre++[y])++(ys++ex):=by rw[hex]; simp
   have hmem : ∀ x,x∈(pre++[y])++(ys++ex)↔x∈pre++y :: ys∨x∈gn s y:=fun x=>by rw[←hsplit,gl]
   have hclo : ∀ b∈pre++[y],∀ x∈gn s b,x∈(pre++[y])++(ys++ex):=by
    intro b hb x hx
    rw[hmem]
    rcases bo_.1 hb with hb | hb
    ·exact .inl (hc b hb x hx)
    ·rw[be_.1 hb] at hx
     exact .inr hx
   have hone:aD L (pre++[y])=if y∈aD L pre then aD L pre else aD L pre++[y]:=by
    by_cases h:y∈aD L pre
    ·rw[ko,rQ,ae_ h,ae_ h]
    ·rw[ko,rQ,ac_ h,ac_ h]
   have hDone:aD [] (pre++[y])=if y∈aD [] pre then aD [] pre else aD [] pre++[y]:=by
    by_cases h:y∈aD [] pre
    ·rw[ko,rQ,ae_ h,ae_ h]
    ·rw[ko,rQ,ac_ h,ac_ h]
   have hr : ∃ n',n'*100000+(ys++ex).length≤m∧(fL s ar).length≤(aD [] (pre++[y])).length+n'∧jX s n (aD [] pre).length (aD [] (pre++y :: ys))=jX s n' (aD [] (pre++[y])).length (aD [] ((pre++[y])++(ys++ex))):=by
    by_cases hy:y∈pre
    ·have hin:aD (pre++y :: ys) (gn s y)=pre++y :: ys:=SF _ _ fun x hx=>hc y hy x hx
     have hex0:ex=[]:=by
      rw[hex] at hin
      exact List.append_right_eq_self.1 hin
     subst hex0
     have e1:aD [] (pre++[y])=aD [] pre:=by rw[hDone,ae_ ((IG _ _).2 hy)]
     refine⟨n,by rw[bv_]; omega,by rw[e1]; exact hn,?_⟩
     rw[e1,bv_,show pre++[y]++ys=pre++y :: ys by simp]
    ·have hyD:y ∉ aD [] pre:=fun h=>hy ((IG _ _).1 h)
     have e1:aD [] (pre++[y])=aD [] pre++[y]:=by rw[hDone,ac_ hyD]
     have e2 : ∃ ex2,aD [] (pre++y :: ys)=(aD [] pre++[y])++ex2:=by
      rw[show pre++y :: ys=(pre++[y])++ys by simp,acC,e1]
      exact kn _ _
     obtain⟨ex2,e2⟩:=e2
     have hDl:(aD [] (pre++y :: ys)).length≤(fL s ar).length:=tg _ _ (SG _) fun x hx=>by
      obtain⟨ex3,e3,_,e4⟩:=hT.ext
      have:=(IG _ _).1 hx
      rw[e3] at this
      rcases bo_.1 this with h | h
      ·exact cq_ _ h
      ·exact(e4 x h).2
     rw[e2] at hDl
     simp only[af_,ad_] at hDl
     obtain⟨n',rfl⟩ : ∃ n',n=n'+1:=⟨n - 1,by omega⟩
     have hexl:=hT'.len
     rw[hsplit] at hexl
     simp only[af_,ad_] at hexl
     have hm2:n'*100000+100000+(ys.length+1)≤m+1:=by rw[←Nat.succ_mul]; exact hm
     have hml:n'*100000+(ys++ex).length≤m:=by
      rw[af_]
      clear hn hDl hLl hlen
      generalize n'*100000=q at hm2 ⊢
      omega
     refine⟨n',hml,by rw[e1,af_,ad_]; omega,?_⟩
     have hget:(aD [] (pre++y :: ys))[(aD [] pre).length]? = some y:=by
      rw[e2]
      simp
     conv=>lhs; unfold jX
     rw[hget]
     dsimp only
     rw[e1,af_,ad_,←hsplit,acD]
   obtain⟨n',hm',hn',hlk⟩:=hr
   obtain⟨r1,r2⟩:=ih n' (pre++[y]) (ys++ex) (by rw[←hsplit]; exact hT') hclo hn' hm'
   rw[hlk]
   constructor
   ·rw[zf,aJ hlt]
    refine Eq.trans h7 ?_
    rw[cz_]
    by_cases hy:y∈aD L pre
    ·rw[bb_ hy,ae_ rfl]
     rw[hone,ae_ hy] at r1
     refine Eq.trans (h13' _) ?_
     rw[hsplit,hw]
     exact r1
    ·rw[bf_ hy,ac_ (by decide)]
     rw[hone,ac_ hy] at r2
     refine Eq.trans (h13 _) ?_
     rw[hsplit,hw]
     exact r2
   ·rw[wT,aJ hlt]
    refine Eq.trans h7' ?_
    rw[cz_]
    by_cases hy:y∈aD L pre
    ·rw[bb_ hy,ae_ rfl]
     rw[hone,ae_ hy] at r2
     refine Eq.trans (h13 _) ?_
     rw[hsplit,hw]
     exact r2
    ·rw[bf_ hy,ac_ (by decide)]
     rw[hone,ac_ hy] at r2
     refine Eq.trans (h13 _) ?_
     rw[hsplit,hw]
     exact r2
end
theorem Zt {s:List ae} (hs:aO s=true) {at' steps code:Int} {L:List ak} {sets:List am} {x:aa_} (hx:x.size≤1000000) (hL:L.length≤10000000):Aq (s,at',steps,code,L,sets,()) x=some (((s,at',steps,code,aD L (eB s (eR ((⟨#[61]⟩:aa_)++x))),sets,()),()),()):=by
 have h1:(⟨#[61]⟩:aa_).size=1:=rfl
 have h2:((⟨#[61]⟩:aa_)++x).size≤9223372036854775807:=by
  rw[fo_,h1]
  omega
 have ha:=pM h2
 rw[QY,gj (by rw[h1]; omega),sA h2,ab_]
 have hT:oM s (eR ((⟨#[61]⟩:aa_)++x)) ([]++eR ((⟨#[61]⟩:aa_)++x)):=⟨[],by simp,List.nodup_nil,fun x hx=>by cases hx⟩
 obtain⟨r1,_⟩:=aaZ (at':=at') (steps:=steps) (code:=code) (z1:=0) (z2:=0) (z3:=0) (sets:=sets) (x0:=[]) (x1:=[]) (x2:=[]) hs ha hL _ (fL s (eR ((⟨#[61]⟩:aa_)++x))).length [] (eR ((⟨#[61]⟩:aa_)++x)) hT (fun b hb=>by cases hb) (by omega) (aq_ _)
 exact r1
theorem P3 {s:List ae} {i:Nat} (h:ck (de s i)=none):bP s i=[]:=by
 unfold bP s9
 rw[h]
 exact List.filter_eq_nil_iff.2 fun k _=>by simp[bZ]
section
variable {s:List ae} (hs:aO s=true)
include hs
theorem uB (i:Nat):nU s i=match ck (de s i) with
  | none=>(bo (lb (de s i))).1
  | some f=>if rR s i=true then vE 5 else eZ f (bc s (nU s)):=by
 have h:=pK (told:=fun _=>false) (given:=fun _=>v0) (dS hs) i
 rw[ac_ (by decide)] at h
 refine Eq.trans h ?_
 cases hf:ck (de s i) with
 | none=>rfl
 | some f =>
  dsimp only
  by_cases hr:dG (bP s) i i
  ·rw[ae_ hr,ae_ (gm.2 hr)]
  ·rw[ac_ hr,ac_ (fun x=>hr (gm.1 x))]
   rfl
theorem J9 {i:Nat} (hi:i < s.length):az (nU s i)=true:=SK hs (fun _ _=>OV) hi
theorem Xx {t:List ae} (ht:aO t=true) {U:Nat→Prop} {m:Nat→Nat} (hU : ∀ i,U i→i < s.length) (hcl : ∀ i,U i → ∀ k∈bP s i,U k) (inj : ∀ i j,U i→U j→m i=m j→i=j)
  (hnone : ∀ i,U i→ck (de s i)=none→ck (de t (m i))=none∧(bo (lb (de t (m i)))).1=(bo (lb (de s i))).1)
  (hsome : ∀ i f,U i→ck (de s i)=some f → ∃ f',ck (de t (m i))=some f'∧(∀ k∈bP s i,m k∈bP t (m i))∧(∀ j∈bP t (m i),∃ k∈bP s i,m k=j) ∧ ∀ F G:Nat→ac,(∀ k∈bP s i,F k=G (m k))→eZ f (bc s F)=eZ f' (bc t G)) :
  ∀ i,U i→nU s i=nU t (m i):=by
 have c1 : ∀ i,U i → ∀ k∈bP s i,m k∈bP t (m i):=by
  intro i hi k hk
  cases hf:ck (de s i) with
  | none=>rw[P3 hf] at hk; cases hk
  | some f=>exact(hsome i f hi hf).choose_spec.2.1 k hk
 have c2 : ∀ i,U i → ∀ j∈bP t (m i),∃ k∈bP s i,m k=j:=by
  intro i hi j hj
  cases hf:ck (de s i) with
  | none=>rw[P3 (hnone i hi hf).1] at hj; cases hj
  | some f=>exact(hsome i f hi hf).choose_spec.2.2.1 j hj
 have r1 : ∀ i k,dG (bP s) i k→U i→U k∧dG (bP t) (m i) (m k):=by
  intro i k h
  induction h with
  | one e=>exact fun hi=>⟨hcl _ hi _ e,.one (c1 _ hi _ e)⟩
  | more _ e ih=>exact fun hi=>⟨hcl _ (ih hi).1 _ e,.more (ih hi).2 (c1 _ (ih hi).1 _ e)⟩
 have r2 : ∀ i j,dG (bP t) (m i) j→U i → ∃ k,dG (bP s) i k∧m k=j:=by
  intro i j h hi
  induction h with
  | one e =>
   obtain⟨k,hk,e⟩:=c2 i hi _ e
   exact⟨k,.one hk,e⟩
  | more _ e ih =>
   obtain⟨k,hk,e1⟩:=ih
   rw[←e1] at e
   obtain⟨l,hl,e2⟩:=c2 k (r1 i k hk hi).1 _ e
   exact⟨l,.more hk hl,e2⟩
 have rr : ∀ i,U i→rR s i=rR t (m i):=by
  intro i hi
  rw[bw_,gm,gm]
  constructor
  ·exact fun h=>(r1 i i h hi).2
  ·intro h
   obtain⟨k,hk,e⟩:=r2 i _ h hi
   rw[inj k i (r1 i k hk hi).1 hi e] at hk
   exact hk
 have key : ∀(n:Nat) (i:Nat),U i→vH (bP s) (bs_ s.length) i≤n→nU s i=nU t (m i):=by
  intro n
  induction n with
  | zero =>
   intro i hi hc
   rw[uB hs i,uB ht (m i)]
   cases hf:ck (de s i) with
   | none =>
    obtain⟨a,b⟩:=hnone i hi hf
    rw[a]
    exact b.symm
   | some f =>
    obtain⟨f',a,_,_,b⟩:=hsome i f hi hf
    rw[a,rr i hi]
    dsimp only
    split
    ·rfl
    ·refine b _ _ fun k hk => ?_
     have:=SE hk
     omega
  | succ n ih =>
   intro i hi hc
   rw[uB hs i,uB ht (m i)]
   cases hf:ck (de s i) with
   | none =>
    obtain⟨a,b⟩:=hnone i hi hf
    rw[a]
    exact b.symm
   | some f =>
    obtain⟨f',a,_,_,b⟩:=hsome i f hi hf
    rw[a,rr i hi]
    dsimp only
    split
    ·rfl
    ·refine b _ _ fun k hk => ?_
     have hUk:=hcl i hi k hk
     by_cases hrk:dG (bP s) k k
     ·rw[uB hs k,uB ht (m k)]
      cases hfk:ck (de s k) with
      | none =>
       obtain⟨a,b⟩:=hnone k hUk hfk
       rw[a]
       exact b.symm
      | some g =>
       obtain⟨g',a,_,_,b⟩:=hsome k g hUk hfk
       rw[a,←rr k hUk,gm.2 hrk]
       rfl
     ·have:=H2 (N:=bs_ s.length) IE hk hrk
      exact ih k hUk (by omega)
 exact fun i hi=>key _ i hi (aq_ _)
end
theorem aa0 {x:aa_} (h:eA x=true) (h61:(lb x).head? = some 61) : ∃ f,ck x=some f∧ft (ba ((lb x).drop 1))=(f,true):=by
 have hsz:=A6 h
 have hw:(lb x).length≤9223372036854775807:=by rw[iR]; omega
 obtain⟨h1,h2,h3⟩:=xg.1 h
 have hb:=ux hw
 rw[dM] at hb
 have h4:(fy (lb x)).2=true:=by
  rw[hb] at h1
  exact h1
 have hne:lb x≠[]:=by
  intro e
  rw[e] at h61
  cases h61
 have hp:((lb x).all kt && decide ((lb x).length≤200))=true:=by
  cases hp:((lb x).all kt && decide ((lb x).length≤200)) with
  | true=>rfl
  | false =>
   have e:fy (lb x)=([],false):=by
    unfold fy
    rw[ac_ hne,hp,ae_ rfl]
   rw[e] at h4
   cases h4
 have e:=uy hne hp
 rw[ae_ h61] at e
 dsimp only at e
 have hr:(ft (ba ((lb x).drop 1))).2=true:=by
  by_cases hr:(ft (ba ((lb x).drop 1))).2=true∧g5 (ft (ba ((lb x).drop 1))).1≠[]∧(g5 (ft (ba ((lb x).drop 1))).1).length < 200
  ·exact hr.1
  ·rw[ac_ hr] at e
   rw[e] at h4
   cases h4
 refine⟨(ft (ba ((lb x).drop 1))).1,?_,Prod.ext rfl hr⟩
 unfold ck
 rw[ae_ ⟨h61,hr⟩]
noncomputable def jl (x:aa_):Bool:=eA ((⟨#[61]⟩:aa_)++x)
theorem aca (x:aa_):(⟨#[61]⟩:aa_)++x=ba (61 :: lb x):=by
 rw[show(⟨#[61]⟩:aa_)=ba [61] from rfl]
 conv=>lhs; rw[←dM x]
 rw[kN]
 rfl
theorem Ka (x:aa_):((⟨#[61]⟩:aa_)++x).size=x.size+1:=by
 rw[fo_]
 show 1+x.size=_
 omega
section
variable {x:aa_} (hx:x.size≤1000000000)
include hx
theorem My:nj x=some ((jl x,()),()):=by
 have h1:(⟨#[61]⟩:aa_).size=1:=rfl
 rw[Mr,gj (by omega),qI (by rw[Ka]; omega)]
 rfl
theorem Kb:fz x=some ((jl x,()),()):=by
 have h1:(⟨#[61]⟩:aa_).size=1:=rfl
 have hne:(⟨#[61]⟩:aa_)++x≠eS:=by
  intro e
  have:=congrArg ByteArray.size e
  rw[Ka] at this
  cases this
 rw[Jr,gj (by omega),(kO (x:=(⟨#[61]⟩:aa_)++x) (by rw[Ka]; omega)).2.1,ab_,gj (by omega)]
 unfold jl eA
 cases (dk ((⟨#[61]⟩:aa_)++x)).2 with
 | false=>rfl
 | true =>
  dsimp only
  rw[ae_ rfl,eqD,bf_ hne]
  rfl
end
theorem uC {t:aa_} (h:jl t=true) : ∃ f,ck ((⟨#[61]⟩:aa_)++t)=some f∧ft t=(f,true)∧ef f=true∧t.size≤199:=by
 have hsz:=A6 h
 rw[Ka] at hsz
 have e:lb ((⟨#[61]⟩:aa_)++t)=61 :: lb t:=by rw[aca,dl]
 obtain⟨f,h1,h2⟩:=aa0 h (by rw[e]; rfl)
 rw[e,List.drop_succ_cons,List.drop_zero,dM] at h2
 exact⟨f,h1,h2,kk h1 (by rw[Ka]; omega),by omega⟩
noncomputable def nV (x:bg) (a b:Int):Bool :=
 if x.1=1 then bM x.2.1 && jl x.2.2.1 && decide (x.2.2.2.1=0)
 else if x.1=2 then bM x.2.1 && JX x.2.2.1 && decide (x.2.2.2.1=0)
 else if x.1=3 then decide (x.2.1=(0,0,())) && jl x.2.2.1 && cu x.2.2.2.1 1 b
 else if x.1=4 then decide (x.2.1=(0,0,())) && jl x.2.2.1 && cu x.2.2.2.1 1 a
 else if x.1=5 then decide (x.2.1=(0,0,())) && jl x.2.2.1 && decide (x.2.2.2.1=0)
 else false
theorem acb (a b:am):bq au a b=decide (a=b):=by
 rw[bw_,ai_]
 exact kJ rfl
section
variable {x:bg} (hx:x.2.2.1.size≤1000000000)
include hx
theorem Zu (a b:Int):vf x a b=some ((nV x a b,()),()):=by
 rw[HI]
 unfold nV
 simp only[pD,My hx,qI (show x.2.2.1.size≤9223372036854775807 by omega),gu,ab_,eqE,acb,pc,ai_]
 by_cases h1:x.1=1
 ·rw[ae_ h1,ae_ h1]
  cases bM x.2.1 <;> cases jl x.2.2.1 <;> simp
 ·rw[ac_ h1,ac_ h1]
  by_cases h2:x.1=2
  ·rw[ae_ h2,ae_ h2]
   unfold JX
   cases bM x.2.1 <;> by_cases he:x.2.2.1=eS <;> cases eA x.2.2.1 <;> simp[he]
  ·rw[ac_ h2,ac_ h2]
   by_cases h3:x.1=3
   ·rw[ae_ h3,ae_ h3]
    by_cases he:x.2.1=(0,0,()) <;> cases jl x.2.2.1 <;> simp[he]
   ·rw[ac_ h3,ac_ h3]
    by_cases h4:x.1=4
    ·rw[ae_ h4,ae_ h4]
     by_cases he:x.2.1=(0,0,()) <;> cases jl x.2.2.1 <;> simp[he]
    ·rw[ac_ h4,ac_ h4]
     by_cases h5:x.1=5
     ·rw[ae_ h5,ae_ h5]
      by_cases he:x.2.1=(0,0,()) <;> cases jl x.2.2.1 <;> simp[he]
     ·rw[ac_ h5,ac_ h5]
end
noncomputable def xU (n:Int):Int→List bg→Bool
 | _,[]=>true
 | i,x :: l=>nV x i (n - 1 - i) && xU n (i+1) l
noncomputable def jt (m:List bg):Bool:=xU m.length 0 m && decide (m.length≤30)
theorem SN {n:Int} : ∀ {l:List bg} {i:Int},xU n i l=true → ∀(k:Nat) (x:bg),l[k]? = some x→nV x (i+k) (n - 1 - (i+k))=true
 | [],i,_,k,x,h=>by simp at h
 | y :: l,i,hm,k,x,h=>by
  unfold xU at hm
  rw[ag_] at hm
  cases k with
  | zero =>
   simp only[List.getElem?_cons_zero,bd_] at h
   subst h
   have e:i+((0:Nat):Int)=i:=by omega
   rw[e]
   exact hm.1
  | succ k =>
   simp only[List.getElem?_cons_succ] at h
   have:=SN hm.2 k x h
   have e:i+1+(k:Int)=i+((k+1:Nat):Int):=by omega
   rw[e] at this
   exact this
theorem Zv {m:List bg} (h:jt m=true) {k:Nat} {x:bg} (hx:m[k]? = some x):nV x k ((m.length:Int) - 1 - k)=true:=by
 unfold jt at h
 rw[ag_] at h
 have:=SN h.1 k x hx
 have e:(0:Int)+(k:Int)=(k:Int):=by omega
 rw[e] at this
 exact this
theorem LP {m:List bg} (h:jt m=true):m.length≤30:=by
 unfold jt at h
 rw[ag_,ai_] at h
 exact h.2
section
variable {m:List bg} (hm:m.length≤2000000) (hs : ∀ x∈m,x.2.2.1.size≤1000000000)
include hm hs
theorem LQ : ∀(ys pre:List bg),m=pre++ys→sr m m (m.length:Int) (pre.length:Int)=some ((xU m.length pre.length ys && decide (m.length≤30),()),())
 | [],pre,h=>by
  have e:decide ((m.length:Int)≤30)=decide (m.length≤30):=by
   rw[bw_,ai_,ai_]
   omega
  rw[zb,aE (br h),e]
  rfl
 | y :: ys,pre,h=>by
  have hlen:m.length=pre.length+(ys.length+1):=by rw[h]; simp
  have hy:=hs y (by rw[h]; simp)
  have e:((pre++[y]).length:Int)=(pre.length:Int)+1:=by simp
  rw[zb,aJ (bF h),bK h,Zu hy,ab_,aM h (by omega),fW (n:=(m.length:Int) - 1) (by omega) (by omega),fW (by omega) (by omega),LQ ys _ (aC h),e]
  dsimp only
  rw[show xU (m.length:Int) (pre.length:Int) (y :: ys)=(nV y pre.length ((m.length:Int) - 1 - pre.length) && xU m.length ((pre.length:Int)+1) ys) from rfl]
  cases nV y pre.length ((m.length:Int) - 1 - pre.length) <;> simp
theorem Rb:FM m=some ((jt m,()),()):=by
 rw[QP]
 exact LQ hm hs m [] rfl
omit hm hs in
theorem acE {y:bg} (hy:y.2.2.1.size≤1000000000) {a b:Int} {K:Option ((Bool×Unit)×Unit)} :
  (if(y.1 == 1)=true then((dA y.2.1).bind fun z1=>(if(!z1.1.1)=true then(some ((false,()),(()))) else(if(y.2.2.2.1 != 0)=true then(some ((false,()),(()))) else((fz y.2.2.1).bind fun z2=>(if(!z2.1.1)=true then(some ((false,()),(()))) else K))))) else(if(y.1 == 2)=true then((d7 y.2.2.1).bind fun z3=>((dA y.2.1).bind fun z4=>(if(!z4.1.1)=true then(some ((false,()),(()))) else(if(y.2.2.2.1 != 0)=true then(some ((false,()),(()))) else(if(!z3.1.2.1)=true then(some ((false,()),(()))) else(if(!(ah_ z3.1.1 == ah_ y.2.2.1))=true then(some ((false,()),(()))) else K)))))) else(if(y.1 == 3)=true then(if(!(bq au y.2.1 (0,0,())))=true then(some ((false,()),(()))) else((iq y.2.2.2.1 1 b).bind fun z5=>(if(!z5.1.1)=true then(some ((false,()),(()))) else((fz y.2.2.1).bind fun z6=>(if(!z6.1.1)=true then(some ((false,()),(()))) else K))))) else(if(y.1 == 4)=true then(if(!(bq au y.2.1 (0,0,())))=true then(some ((false,()),(()))) else((iq y.2.2.2.1 1 a).bind fun z7=>(if(!z7.1.1)=true then(some ((false,()),(()))) else((fz y.2.2.1).bind fun z8=>(if(!z8.1.1)=true then(some ((false,()),(()))) else K))))) else(if(y.1 == 5)=true then(if(!(bq au y.2.1 (0,0,())))=true then(some ((false,()),(()))) else(if(y.2.2.2.1 != 0)=true then(some ((false,()),(()))) else((fz y.2.2.1).bind fun z9=>(if(!z9.1.1)=true then(some ((false,()),(()))) else K)))) else(some ((false,()),(()))))))))=if nV y a b=true then K else some ((false,()),()):=by
 unfold nV
 have hne:(y.2.2.2.1 != 0) = !decide (y.2.2.2.1=0):=rfl
 rw[←Zd]
 simp only[kW,Kb hy,(kO (show y.2.2.1.size≤9223372036854775807 by omega)).2.1,kf,ab_,eqD,acb,pc,ai_,hne]
 by_cases h1:y.1=1
 ·rw[ae_ h1,ae_ h1]
  cases bM y.2.1 <;> cases jl y.2.2.1 <;> by_cases h0:y.2.2.2.1=0 <;> simp[h0]
 ·rw[ac_ h1,ac_ h1]
  by_cases h2:y.1=2
  ·rw[ae_ h2,ae_ h2]
   cases bM y.2.1 <;> cases (dk y.2.2.1).2 <;> by_cases h0:y.2.2.2.1=0 <;> by_cases hp:(dk y.2.2.1).1=y.2.2.1 <;> simp[h0,hp]
  ·rw[ac_ h2,ac_ h2]
   by_cases h3:y.1=3
   ·rw[ae_ h3,ae_ h3]
    by_cases he:y.2.1=(0,0,()) <;> cases jl y.2.2.1 <;> cases cu y.2.2.2.1 1 b <;> simp[he]
   ·rw[ac_ h3,ac_ h3]
    by_cases h4:y.1=4
    ·rw[ae_ h4,ae_ h4]
     by_cases he:y.2.1=(0,0,()) <;> cases jl y.2.2.1 <;> cases cu y.2.2.2.1 1 a <;> simp[he]
    ·rw[ac_ h4,ac_ h4]
     by_cases h5:y.1=5
     ·rw[ae_ h5,ae_ h5]
      by_cases he:y.2.1=(0,0,()) <;> cases jl y.2.2.1 <;> by_cases h0:y.2.2.2.1=0 <;> simp[he,h0]
     ·rw[ac_ h5,ac_ h5]
      simp
theorem LR : ∀(ys pre:List bg),m=pre++ys→iB m (pre.length:Int)=some ((xU m.length pre.length ys,()),())
 | [],pre,h=>by
  rw[yZ,aE (br h)]
  rfl
 | y :: ys,pre,h=>by
  have hlen:m.length=pre.length+(ys.length+1):=by rw[h]; simp
  have hy:=hs y (by rw[h]; simp)
  have e:((pre++[y]).length:Int)=(pre.length:Int)+1:=by simp
  rw[yZ,aJ (bF h),bK h,aM h (by omega),fW (n:=(m.length:Int) - 1) (by omega) (by omega),fW (n:=(m.length:Int) - 1 - pre.length) (by omega) (by omega),LR ys _ (aC h),acE hy,e]
  rw[show xU (m.length:Int) (pre.length:Int) (y :: ys)=(nV y pre.length ((m.length:Int) - 1 - pre.length) && xU m.length ((pre.length:Int)+1) ys) from rfl]
  cases nV y pre.length ((m.length:Int) - 1 - pre.length) <;> simp
theorem Fj:j8 m=some ((jt m,()),()):=by
 rw[QI]
 unfold jt
 by_cases h:m.length≤30
 ·rw[aE (by omega),bb_ h,Bool.and_true]
  exact LR hm hs m [] rfl
 ·rw[aJ (by omega),bf_ h,Bool.and_false]
end
theorem SO {v:ac} (h:az v=true) (h0:v.1≠0) (hl:(bG v).size≤200):eA (bG v)=true:=by
 have hrd:=qG h
 have hpl:=H5 h
 have hb:=ux (w:=lb (bG v)) (by rw[iR]; omega)
 rw[dM] at hb
 rw[←dM (bG v),vS] at hpl
 have hne:lb (bG v)≠[]:=by
  intro e
  rw[e] at hrd
  have h1:bo []=(v0,true):=qG (v:=v0) (by decide)
  rw[h1] at hrd
  have:=congrArg (fun p=>p.1.1) hrd
  exact h0 this.symm
 have hall:((lb (bG v)).all kt && decide ((lb (bG v)).length≤200))=true:=by
  rw[hpl,iR,bb_ hl]
  rfl
 have hnum:fw (lb (bG v))=true→v.1=1:=by
  intro hn
  rcases uc h with k | k | k | k | k
  ·exact bh_ k h0
  ·exact k
  ·exfalso
   have e:lb (bG v)=39 :: lb v.2.2.1:=by
    unfold bG
    rw[ac_ (by omega),ae_ k,show(⟨#[39]⟩:aa_)=ba [39] from rfl]
    conv=>lhs; rw[←dM v.2.2.1]
    rw[kN,dl]
    rfl
   rw[e] at hn
   unfold fw js at hn
   have hm:iH (39 :: lb v.2.2.1)=39 :: lb v.2.2.1:=rfl
   rw[hm,List.all_cons] at hn
   have:dw 39=false:=by decide
   rw[this] at hn
   simp at hn
  ·exfalso
   have hr:=zn h k
   have e:bG v=w5 v.2.1:=by
    unfold bG
    rw[ac_ (by omega),ac_ (by omega),ae_ k]
   rw[e] at hn
   have:v.2.1=0∨v.2.1=1:=by omega
   rcases this with q | q <;> rw[q] at hn <;> exact bh_ hn (by decide +kernel)
  ·exfalso
   have hr:=ut h k
   have e:bG v=cX v.2.1:=by
    unfold bG
    rw[ac_ (by omega),ac_ (by omega),ac_ (by omega),ae_ k]
   rw[e] at hn
   have:v.2.1=1∨v.2.1=2∨v.2.1=3∨v.2.1=4∨v.2.1=5:=by omega
   rcases this with q | q | q | q | q <;> rw[q] at hn <;> exact bh_ hn (by decide +kernel)
 have h61:(lb (bG v)).head? ≠ some 61:=by
  intro e
  rcases uc h with k | k | k | k | k
  ·exact h0 k
  ·have hr:=rs h k
   have e2:bG v=di v.2.1:=by
    unfold bG
    rw[ae_ k]
   rw[e2] at e
   exact(Gi hr.1 hr.2).2.2.2.1 e
  ·have e2:lb (bG v)=39 :: lb v.2.2.1:=by
    unfold bG
    rw[ac_ (by omega),ae_ k,show(⟨#[39]⟩:aa_)=ba [39] from rfl]
    conv=>lhs; rw[←dM v.2.2.1]
    rw[kN,dl]
    rfl
   rw[e2] at e
   simp at e
  ·have hr:=zn h k
   have e2:bG v=w5 v.2.1:=by
    unfold bG
    rw[ac_ (by omega),ac_ (by omega),ae_ k]
   rw[e2] at e
   have:v.2.1=0∨v.2.1=1:=by omega
   rcases this with q | q <;> rw[q] at e <;> exact bh_ e (by decide +kernel)
  ·have hr:=ut h k
   have e2:bG v=cX v.2.1:=by
    unfold bG
    rw[ac_ (by omega),ac_ (by omega),ac_ (by omega),ae_ k]
   rw[e2] at e
   have:v.2.1=1∨v.2.1=2∨v.2.1=3∨v.2.1=4∨v.2.1=5:=by omega
   rcases this with q | q | q | q | q <;> rw[q] at e <;> exact bh_ e (by decide +kernel)
 have hW:fy (lb (bG v))=(lb (bG v),true):=by
  rw[uy hne hall,ac_ h61]
  by_cases hn:fw (lb (bG v))=true
  ·have k:=hnum hn
   have hr:=rs h k
   have e2:bG v=di v.2.1:=by
    unfold bG
    rw[ae_ k]
   rw[ae_ hn,e2,(Gi hr.1 hr.2).2.1]
  ·rw[ac_ hn,hrd,ae_ rfl]
 rw[hW] at hb
 dsimp only at hb
 rw[dM] at hb
 rw[xg,hb]
 refine⟨rfl,?_,rfl⟩
 intro e
 rw[e] at hne
 exact hne rfl
theorem aa1:eA (cX 4)=true:=by
 have:=SO (v:=vE 4) (by decide) (by decide) (by decide +kernel)
 exact this
abbrev jm:=List ae×List ak×List am
noncomputable def fM (s:List ae) (t:aa_):ac:=eZ (ft t).1 (bc s (nU s))
def P4 (v:ac):Bool:=eH v && decide (v.2.1≠0)
def Kc (v:ac):aa_:=if(bG v).size > 200 then cX 4 else bG v
noncomputable def cK (st:jm) (q:am) (x:aa_):Int×jm:=if(ed st.1 q x).length > 120 then(5,st) else(0,ed st.1 q x,st.2.1,aD st.2.2 [q])
noncomputable def ct (st:jm) (t:aa_):jm:=(st.1,aD st.2.1 (eB st.1 (eR ((⟨#[61]⟩:aa_)++t))),st.2.2)
noncomputable def bQ (x:bg) (i:Int) (st:jm):Int×Int×jm :=
 if x.1=2 then((cK st x.2.1 x.2.2.1).1,i+1,(cK st x.2.1 x.2.2.1).2)
 else if x.1=1 then((cK (ct st x.2.2.1) x.2.1 (Kc (fM st.1 x.2.2.1))).1,i+1,(cK (ct st x.2.2.1) x.2.1 (Kc (fM st.1 x.2.2.1))).2)
 else if x.1=3 then(0,if P4 (fM st.1 x.2.2.1)=true then i+1 else i+x.2.2.2.1+1,ct st x.2.2.1)
 else if x.1=4 then(0,if P4 (fM st.1 x.2.2.1)=true then i - x.2.2.2.1 else i+1,ct st x.2.2.1)
 else(if P4 (fM st.1 x.2.2.1)=true then 4 else 0,i+1,ct st x.2.2.1)
noncomputable def df (m:List bg):Nat→Int→jm→Int×Nat×jm
 | 0,i,st=>if i < (m.length:Int) then(3,0,st) else(0,0,st)
 | n+1,i,st=>if i < (m.length:Int) then
   (if(bQ (m.getD i.toNat aX.dflt) i st).1=0 then((df m n (bQ (m.getD i.toNat aX.dflt) i st).2.1 (bQ (m.getD i.toNat aX.dflt) i st).2.2).1,(df m n (bQ (m.getD i.toNat aX.dflt) i st).2.1 (bQ (m.getD i.toNat aX.dflt) i st).2.2).2.1+1,(df m n (bQ (m.getD i.toNat aX.dflt) i st).2.1 (bQ (m.getD i.toNat aX.dflt) i st).2.2).2.2)
    else((bQ (m.getD i.toNat aX.dflt) i st).1,1,(bQ (m.getD i.toNat aX.dflt) i st).2.2))
   else(0,0,st)
structure mS (n:Nat) (st:jm):Prop where
 sh:aO st.1=true
 lk:st.2.1.length+8000*n≤9000000
 se:st.2.2.length+n≤900000
section
variable {s:List ae} (hs:aO s=true) {t:aa_} (ht:jl t=true)
include hs ht
theorem P5:az (fM s t)=true∧(fM s t).1≠0:=by
 obtain⟨f,h1,h2,h3,h4⟩:=uC ht
 have hv:=lr hs fun k hk=>J9 hs hk
 have e:fM s t=eZ f (bc s (nU s)):=by
  unfold fM
  rw[h2]
 rw[e]
 refine⟨DE h3 hv,?_⟩
 unfold eZ
 dsimp only
 split
 ·decide
 ·assumption
theorem acd {L:List ak} {S:List am} (hL:L.length≤10000000):oA t s L S=some ((fM s t,()),((s,aD L (eB s (eR ((⟨#[61]⟩:aa_)++t))),S,()),())):=by
 obtain⟨f,h1,h2,h3,h4⟩:=uC ht
 have hsm:=s8 h3
 have hl:=hsm.1
 have hn:=bB hs
 have hv:=lr hs fun k hk=>J9 hs hk
 have har:eR ((⟨#[61]⟩:aa_)++t)=bZ f:=by
  unfold eR
  rw[h1]
  rfl
 have e:fM s t=eZ f (bc s (nU s)):=by
  unfold fM
  rw[h2]
 rw[FW,(ot (x:=t) (by omega)).2.1,h2,ab_,Zs hs (by omega) hL,ab_,har,e]
 dsimp only
 rw[IL hs,ab_,O5 (by rw[ik]; omega) (fun c hc=>bq_ (dV (mL hv c hc)) (by decide)) (by omega) hsm.2.1 hsm.2.2 h3 hv]
 rfl
theorem ace {i j k:Int} {L:List ak} {S:List am}:wu (s,i,j,k,L,S,()) t=some ((fM s t,()),()):=by
 obtain⟨f,h1,h2,h3,h4⟩:=uC ht
 have hsm:=s8 h3
 have hl:=hsm.1
 have hn:=bB hs
 have hv:=lr hs fun k hk=>J9 hs hk
 have e:fM s t=eZ f (bc s (nU s)):=by
  unfold fM
  rw[h2]
 rw[OA,(ot (x:=t) (by omega)).1,h2,ab_,Xt hs,ab_,O4 (by rw[ik]; omega) (fun c hc=>bq_ (dV (mL hv c hc)) (by decide)) (by omega) hsm.2.1 hsm.2.2,e]
 unfold MK
 rw[ae_ h3,ae_ hv]
 rfl
end
section
variable {s:List ae} (hs:aO s=true) {q:am} {x:aa_} {L:List ak} {S:List am} (hS:S.length≤1000000)
include hs hS
theorem ZY:aG q x s L S=some ((decide ((cK (s,L,S) q x).1=0),()),(((cK (s,L,S) q x).2.1,(cK (s,L,S) q x).2.2.1,(cK (s,L,S) q x).2.2.2,()),())):=by
 have hn:=bB hs
 rw[HN,Fe (bN hs) (by omega),ab_]
 unfold cK
 dsimp only
 by_cases h:(ed s q x).length > 120
 ·rw[aJ (by omega),ae_ h]
  rfl
 ·rw[aE (by omega),ac_ h,aaS (by omega),ab_,rQ]
  dsimp only
  by_cases hq:q∈S
  ·rw[bb_ hq,ac_ (by decide),ae_ hq]
   rfl
  ·rw[bf_ hq,ae_ (by decide),ac_ hq,bi (by simp only[ad_]; omega)]
   rfl
theorem ZZ {i j:Int}:iO (s,i,j,0,L,S,()) q x=some ((((cK (s,L,S) q x).2.1,i,j,(cK (s,L,S) q x).1,(cK (s,L,S) q x).2.2.1,(cK (s,L,S) q x).2.2.2,()),()),()):=by
 have hn:=bB hs
 rw[T3]
 dsimp only
 rw[LG (by omega),ab_]
 unfold cK
 dsimp only
 by_cases h:(ed s q x).length > 120
 ·rw[aJ (by omega),ae_ h]
 ·rw[aE (by omega),ac_ h,xi _ (by omega),ab_,rQ]
  dsimp only
  by_cases hq:q∈S
  ·rw[bb_ hq,ac_ (by decide),ae_ hq]
  ·rw[bf_ hq,ae_ (by decide),ac_ hq,bi (by simp only[bl_]; omega),df_,bi (by simp only[ad_]; omega)]
end
theorem LS (st:jm) (q:am) (x:aa_):(cK st q x).1=0∨(cK st q x).1=5:=by
 unfold cK
 split
 ·exact .inr rfl
 ·exact .inl rfl
section
variable {m:List bg} (hm:jt m=true) {st:jm} {n:Nat} (hI:mS (n+1) st) {i:Int} (h0:0≤i) (h1:i < (m.length:Int)) {fuel steps:Int} (hb:0≤steps∧steps≤1000) (hf:steps≠fuel)
include hm hI h0 h1
theorem MR : ∃ x,m[i.toNat]? = some x∧m.getD i.toNat aX.dflt=x∧nV x i ((m.length:Int) - 1 - i)=true:=by
 have hi:i.toNat < m.length:=by omega
 refine⟨m.getD i.toNat aX.dflt,pL hi,rfl,?_⟩
 have:=Zv hm (pL (d:=aX.dflt) hi)
 rw[show((i.toNat:Nat):Int)=i by omega] at this
 exact this
omit h0 h1 hm in
theorem SP {q:am} {x:aa_} (hq:bM q=true) (hx:x≠eS→eA x=true) {L:List ak} (hL:L.length+8000*n≤9000000):mS n (cK (st.1,L,st.2.2) q x).2:=by
 have h2:=hI.sh
 have h3:=hI.se
 unfold cK
 dsimp only
 by_cases h:(ed st.1 q x).length > 120
 ·rw[ae_ h]
  exact⟨h2,hL,by show st.2.2.length+n≤900000; omega⟩
 ·rw[ac_ h]
  have hl:=tf st.2.2 [q]
  rw[ad_] at hl
  exact⟨xR h2 hq hx (by omega),hL,by show(aD st.2.2 [q]).length+n≤900000; omega⟩
omit h0 h1 hm in
theorem rU {t:aa_} (ht:jl t=true):(ct st t).2.1.length+8000*n≤9000000∧mS n (ct st t):=by
 obtain⟨f,h1,h2,h3,h4⟩:=uC ht
 have a1:=hI.lk
 have a2:=hI.se
 have har:(eR ((⟨#[61]⟩:aa_)++t)).length≤60:=pM (by rw[Ka]; omega)
 have hlen:=LO hI.sh har
 have hl:=tf st.2.1 (eB st.1 (eR ((⟨#[61]⟩:aa_)++t)))
 have e:(ct st t).2.1.length+8000*n≤9000000:=by
  show(aD st.2.1 (eB st.1 (eR ((⟨#[61]⟩:aa_)++t)))).length+8000*n≤9000000
  omega
 exact⟨e,hI.sh,e,by show st.2.2.length+n≤900000; omega⟩
theorem P6 {s:List ae} (hs:aO s=true) {t:aa_} (ht:jl t=true):eA (Kc (fM s t))=true:=by
 obtain⟨e1,e2⟩:=P5 hs ht
 unfold Kc
 split
 ·exact aa1
 ·exact SO e1 e2 (by omega)
theorem th:mS n (bQ (m.getD i.toNat aX.dflt) i st).2.2∧0≤(bQ (m.getD i.toNat aX.dflt) i st).2.1∧(bQ (m.getD i.toNat aX.dflt) i st).2.1≤(m.length:Int):=by
 obtain⟨x,hx,hxd,hst⟩:=MR hm hI h0 h1
 rw[hxd]
 unfold nV at hst
 unfold bQ
 have a1:=hI.lk
 by_cases k2:x.1=2
 ·rw[ac_ (by omega),ae_ k2,ag_,ag_] at hst
  rw[ae_ k2]
  refine⟨SP (L:=st.2.1) hI hst.1.1 (fun hne => ?_) (by omega),by show 0≤i+1; omega,by show i+1≤_; omega⟩
  have:=hst.1.2
  unfold JX at this
  rw[bf_ hne,cz_] at this
  exact this
 ·rw[ac_ k2]
  by_cases k1:x.1=1
  ·rw[ae_ k1,ag_,ag_] at hst
   rw[ae_ k1]
   obtain⟨e1,e2⟩:=rU hI hst.1.2
   exact⟨SP hI hst.1.1 (fun _=>P6 hm hI h0 h1 hI.sh hst.1.2) e1,by show 0≤i+1; omega,by show i+1≤_; omega⟩
  ·rw[ac_ k1,ac_ k2] at hst
   rw[ac_ k1]
   by_cases k3:x.1=3
   ·rw[ae_ k3,ag_,ag_] at hst
    rw[ae_ k3]
    have hb:=bm.1 hst.2
    refine⟨(rU hI hst.1.2).2,?_,?_⟩ <;> dsimp only <;> split <;> omega
   ·rw[ac_ k3] at hst
    rw[ac_ k3]
    by_cases k4:x.1=4
    ·rw[ae_ k4,ag_,ag_] at hst
     rw[ae_ k4]
     have hb:=bm.1 hst.2
     refine⟨(rU hI hst.1.2).2,?_,?_⟩ <;> dsimp only <;> split <;> omega
    ·rw[ac_ k4] at hst
     rw[ac_ k4]
     by_cases k5:x.1=5
     ·rw[ae_ k5,ag_,ag_] at hst
      exact⟨(rU hI hst.1.2).2,by show 0≤i+1; omega,by show i+1≤_; omega⟩
     ·rw[ac_ k5] at hst
      cases hst
include hb hf
theorem acF:af m fuel steps i st.1 st.2.1 st.2.2=if(bQ (m.getD i.toNat aX.dflt) i st).1=0 then af m fuel (steps+1) (bQ (m.getD i.toNat aX.dflt) i st).2.1 (bQ (m.getD i.toNat aX.dflt) i st).2.2.1 (bQ (m.getD i.toNat aX.dflt) i st).2.2.2.1 (bQ (m.getD i.toNat aX.dflt) i st).2.2.2.2
  else some (((bQ (m.getD i.toNat aX.dflt) i st).1,steps+1,()),(((bQ (m.getD i.toNat aX.dflt) i st).2.2.1,(bQ (m.getD i.toNat aX.dflt) i st).2.2.2.1,(bQ (m.getD i.toNat aX.dflt) i st).2.2.2.2,()),())):=by
 obtain⟨x,hx,hxd,hst⟩:=MR hm hI h0 h1
 have hml:=LP hm
 have a1:=hI.lk
 have a2:=hI.se
 have hfs:(steps == fuel)=false:=by rw[pc,bf_ hf]
 have w1:IntKind.i64.wrap (steps+1)=steps+1:=fW (by omega) (by omega)
 have w2:IntKind.i64.wrap (i+1)=i+1:=fW (by omega) (by omega)
 rw[hxd,jp,aJ h1,hfs,ac_ (by decide),bU h0 hx,w1,w2]
 unfold nV at hst
 unfold bQ
 by_cases k2:x.1=2
 ·have hp:=ZY hI.sh (q:=x.2.1) (x:=x.2.2.1) (L:=st.2.1) (S:=st.2.2) (by omega)
  rw[ae_ k2,k2,ac_ (by decide),ae_ (by decide),hp,ab_]
  dsimp only
  rcases LS st x.2.1 x.2.2.1 with e | e
  ·rw[show cK (st.1,st.2.1,st.2.2) x.2.1 x.2.2.1=cK st x.2.1 x.2.2.1 from rfl,e,ae_ rfl,ac_ (by decide)]
  ·rw[show cK (st.1,st.2.1,st.2.2) x.2.1 x.2.2.1=cK st x.2.1 x.2.2.1 from rfl,e,ae_ (by decide),ac_ (by decide)]
 ·have hne:(x.1 != 2)=true:=by rw[bne_iff_ne]; exact k2
  have hw:jl x.2.2.1=true:=by
   by_cases k1:x.1=1
   ·rw[ae_ k1,ag_,ag_] at hst
    exact hst.1.2
   ·rw[ac_ k1,ac_ k2] at hst
    by_cases k3:x.1=3
    ·rw[ae_ k3,ag_,ag_] at hst
     exact hst.1.2
    ·rw[ac_ k3] at hst
     by_cases k4:x.1=4
     ·rw[ae_ k4,ag_,ag_] at hst
      exact hst.1.2
     ·rw[ac_ k4] at hst
      by_cases k5:x.1=5
      ·rw[ae_ k5,ag_,ag_] at hst
       exact hst.1.2
      ·rw[ac_ k5] at hst
       cases hst
  obtain⟨v1,v2⟩:=P5 hI.sh hw
  have htr:=lQ (cg v1)
  have hvt:=BF (cg v1)
  rw[ae_ v1] at hvt
  obtain⟨l1,l2⟩:=rU hI hw
  rw[ac_ k2,ae_ hne,acd hI.sh hw (by omega),ab_]
  dsimp only
  rw[htr,ab_]
  dsimp only
  unfold P4
  by_cases k1:x.1=1
  ·have hp:=fun y=>ZY hI.sh (q:=x.2.1) (x:=y) (L:=(ct st x.2.2.1).2.1) (S:=st.2.2) (by omega)
   have hp' : ∀ y,aG x.2.1 y st.1 (aD st.2.1 (eB st.1 (eR ((⟨#[61]⟩:aa_)++x.2.2.1)))) st.2.2=some ((decide ((cK (ct st x.2.2.1) x.2.1 y).1=0),()),(((cK (ct st x.2.2.1) x.2.1 y).2.1,(cK (ct st x.2.2.1) x.2.1 y).2.2.1,(cK (ct st x.2.2.1) x.2.1 y).2.2.2,()),())):=hp
   have e4:=oE (n:=4) (by decide) (by decide)
   have main : ∀ y,((aG x.2.1 y st.1 (aD st.2.1 (eB st.1 (eR ((⟨#[61]⟩:aa_)++x.2.2.1)))) st.2.2).bind fun z5=>(if(!z5.1.1)=true then(some ((5,(steps+1),()),(z5.2.1,()))) else(af m fuel (steps+1) (i+1) z5.2.1.1 z5.2.1.2.1 z5.2.1.2.2.1)))=if(cK (ct st x.2.2.1) x.2.1 y).1=0 then af m fuel (steps+1) (i+1) (cK (ct st x.2.2.1) x.2.1 y).2.1 (cK (ct st x.2.2.1) x.2.1 y).2.2.1 (cK (ct st x.2.2.1) x.2.1 y).2.2.2 else some (((cK (ct st x.2.2.1) x.2.1 y).1,steps+1,()),(((cK (ct st x.2.2.1) x.2.1 y).2.1,(cK (ct st x.2.2.1) x.2.1 y).2.2.1,(cK (ct st x.2.2.1) x.2.1 y).2.2.2,()),())):=by
    intro y
    rw[hp' y,ab_]
    dsimp only
    rcases LS (ct st x.2.2.1) x.2.1 y with e | e
    ·rw[e,ae_ rfl,ac_ (by decide)]
    ·rw[e,ae_ (by decide),ac_ (by decide)]
   rw[ae_ k1]
   simp only[k1,main,e4,hvt,ab_,beq_self_eq_true,ba_,show decide ((1:Int)≤2)=true from rfl,ite_self]
   unfold Kc
   by_cases hsz:(bG (fM st.1 x.2.2.1)).size > 200
   ·rw[aJ (by omega),ae_ hsz]
   ·rw[aE (by omega),ac_ hsz]
  ·rw[ac_ k1]
   have k1':(x.1 == 1)=false:=by rw[pc,bf_ k1]
   rw[ac_ k1,ac_ k2] at hst
   by_cases k3:x.1=3
   ·rw[ae_ k3,ag_,ag_] at hst
    have hb3:=bm.1 hst.2
    have w3:IntKind.i64.wrap (he_ hf_ (i+x.2.2.2.1)+1)=i+x.2.2.2.1+1:=by
     rw[fW (n:=i+x.2.2.2.1) (by omega) (by omega),fW (by omega) (by omega)]
    rw[ae_ k3]
    simp only[k3,w3,show((3:Int) == 1)=false from rfl,show((3:Int) == 3)=true from rfl,show((3:Int) == 4)=false from rfl,show((3:Int) == 5)=false from rfl,show decide ((3:Int)≤2)=false from rfl,ak_,av_,ba_,ai_]
    unfold ct
    by_cases hn:(fM st.1 x.2.2.1).2.1=0
    ·simp[hn]
    ·cases hi:eH (fM st.1 x.2.2.1) <;> simp[hn]
   ·have k3':(x.1 == 3)=false:=by rw[pc,bf_ k3]
    rw[ac_ k3] at hst
    rw[ac_ k3]
    by_cases k4:x.1=4
    ·rw[ae_ k4,ag_,ag_] at hst
     have hb3:=bm.1 hst.2
     have w3:IntKind.i64.wrap (he_ hf_ (i - IntKind.i64.wrap (x.2.2.2.1+1))+1)=i - x.2.2.2.1:=by
      rw[fW (n:=x.2.2.2.1+1) (by omega) (by omega),fW (n:=i - (x.2.2.2.1+1)) (by omega) (by omega),fW (by omega) (by omega)]
      omega
     rw[ae_ k4]
     simp only[k4,w3,show((4:Int) == 1)=false from rfl,show((4:Int) == 3)=false from rfl,show((4:Int) == 4)=true from rfl,show((4:Int) == 5)=false from rfl,show decide ((4:Int)≤2)=false from rfl,ak_,av_,ba_,ai_]
     unfold ct
     by_cases hn:(fM st.1 x.2.2.1).2.1=0
     ·simp[hn]
     ·cases hi:eH (fM st.1 x.2.2.1) <;> simp[hn]
    ·rw[ac_ k4] at hst
     rw[ac_ k4]
     by_cases k5:x.1=5
     ·simp only[k5,show((5:Int) == 1)=false from rfl,show((5:Int) == 3)=false from rfl,show((5:Int) == 4)=false from rfl,show((5:Int) == 5)=true from rfl,show decide ((5:Int)≤2)=false from rfl,ak_,av_,ba_,ai_]
      unfold ct
      by_cases hn:(fM st.1 x.2.2.1).2.1=0
      ·simp[hn]
      ·cases hi:eH (fM st.1 x.2.2.1) <;> simp[hn]
     ·rw[ac_ k5] at hst
      cases hst
theorem acG {u v w:Int} {j1:List ae} {j2:List ak} {j3:List am}:bd m fuel u v w st.1 i steps 0 st.2.1 st.2.2 j1 j2 j3=bd m fuel u v w (bQ (m.getD i.toNat aX.dflt) i st).2.2.1 (bQ (m.getD i.toNat aX.dflt) i st).2.1 (steps+1) (bQ (m.getD i.toNat aX.dflt) i st).1 (bQ (m.getD i.toNat aX.dflt) i st).2.2.2.1 (bQ (m.getD i.toNat aX.dflt) i st).2.2.2.2 j1 j2 j3:=by
 obtain⟨x,hx,hxd,hst⟩:=MR hm hI h0 h1
 have hml:=LP hm
 have a1:=hI.lk
 have a2:=hI.se
 have hfs:(steps == fuel)=false:=by rw[pc,bf_ hf]
 have w1:IntKind.i64.wrap (steps+1)=steps+1:=fW (by omega) (by omega)
 have w2:IntKind.i64.wrap (i+1)=i+1:=fW (by omega) (by omega)
 conv=>lhs; rw[kK]
 rw[hxd,ae_ (by rfl),aJ h1,hfs,ac_ (by decide),bU h0 hx,w1,w2]
 unfold nV at hst
 unfold bQ
 by_cases k2:x.1=2
 ·have hp:=ZZ hI.sh (q:=x.2.1) (x:=x.2.2.1) (L:=st.2.1) (S:=st.2.2) (by omega) (i:=i+1) (j:=steps+1)
  rw[ae_ k2,k2,ae_ (by decide),hp,ab_]
 ·have hne:(x.1 == 2)=false:=by rw[pc,bf_ k2]
  have hw:jl x.2.2.1=true:=by
   by_cases k1:x.1=1
   ·rw[ae_ k1,ag_,ag_] at hst
    exact hst.1.2
   ·rw[ac_ k1,ac_ k2] at hst
    by_cases k3:x.1=3
    ·rw[ae_ k3,ag_,ag_] at hst
     exact hst.1.2
    ·rw[ac_ k3] at hst
     by_cases k4:x.1=4
     ·rw[ae_ k4,ag_,ag_] at hst
      exact hst.1.2
     ·rw[ac_ k4] at hst
      by_cases k5:x.1=5
      ·rw[ae_ k5,ag_,ag_] at hst
       exact hst.1.2
      ·rw[ac_ k5] at hst
       cases hst
  obtain⟨f,_,_,_,hsz⟩:=uC hw
  obtain⟨v1,v2⟩:=P5 hI.sh hw
  have htr:=ue v1
  have hvt:=eY (cg v1)
  rw[ae_ v1] at hvt
  have hbad:=cT (fM st.1 x.2.2.1)
  obtain⟨l1,l2⟩:=rU hI hw
  rw[ac_ k2,hne,ac_ (by decide),Zt hI.sh (by omega) (by omega),ab_]
  dsimp only
  rw[ace hI.sh hw,ab_]
  dsimp only
  rw[htr,ab_]
  dsimp only
  unfold P4
  by_cases k1:x.1=1
  ·have hp:=fun y=>ZZ hI.sh (q:=x.2.1) (x:=y) (L:=(ct st x.2.2.1).2.1) (S:=st.2.2) (by omega) (i:=i+1) (j:=steps+1)
   have hp' : ∀ y,iO (st.1,i+1,steps+1,0,aD st.2.1 (eB st.1 (eR ((⟨#[61]⟩:aa_)++x.2.2.1))),st.2.2,()) x.2.1 y=some ((((cK (ct st x.2.2.1) x.2.1 y).2.1,i+1,steps+1,(cK (ct st x.2.2.1) x.2.1 y).1,(cK (ct st x.2.2.1) x.2.1 y).2.2.1,(cK (ct st x.2.2.1) x.2.1 y).2.2.2,()),()),()):=hp
   have e4:=ua (n:=4) (by decide) (by decide)
   rw[ae_ k1]
   simp only[k1,hp',e4,hvt,ab_,beq_self_eq_true,ba_,ite_self]
   unfold Kc
   by_cases hz:(bG (fM st.1 x.2.2.1)).size > 200
   ·rw[aJ (by omega),ae_ hz]
   ·rw[aE (by omega),ac_ hz]
  ·rw[ac_ k1]
   rw[ac_ k1,ac_ k2] at hst
   by_cases k3:x.1=3
   ·rw[ae_ k3,ag_,ag_] at hst
    have hb3:=bm.1 hst.2
    have w3:IntKind.i64.wrap (i+1+x.2.2.2.1)=i+x.2.2.2.1+1:=by
     rw[fW (by omega) (by omega)]
     omega
    rw[ae_ k3]
    simp only[k3,w3,show((3:Int) == 1)=false from rfl,show((3:Int) == 3)=true from rfl,show((3:Int) == 4)=false from rfl,show((3:Int) == 5)=false from rfl,ak_,av_,ba_,ai_]
    unfold ct
    by_cases hn:(fM st.1 x.2.2.1).2.1=0
    ·cases hi:eH (fM st.1 x.2.2.1) <;> simp[hn]
    ·cases hi:eH (fM st.1 x.2.2.1) <;> simp[hn,hbad,v0]
   ·rw[ac_ k3] at hst
    rw[ac_ k3]
    by_cases k4:x.1=4
    ·rw[ae_ k4,ag_,ag_] at hst
     have hb3:=bm.1 hst.2
     have w3:IntKind.i64.wrap (he_ hf_ (i+1 - 1) - x.2.2.2.1)=i - x.2.2.2.1:=by
      rw[fW (n:=i+1 - 1) (by omega) (by omega),fW (by omega) (by omega)]
      omega
     rw[ae_ k4]
     simp only[k4,w3,show((4:Int) == 1)=false from rfl,show((4:Int) == 3)=false from rfl,show((4:Int) == 4)=true from rfl,show((4:Int) == 5)=false from rfl,ak_,av_,ba_,ai_]
     unfold ct
     by_cases hn:(fM st.1 x.2.2.1).2.1=0
     ·cases hi:eH (fM st.1 x.2.2.1) <;> simp[hn]
     ·cases hi:eH (fM st.1 x.2.2.1) <;> simp[hn,hbad,v0]
    ·rw[ac_ k4] at hst
     rw[ac_ k4]
     by_cases k5:x.1=5
     ·simp only[k5,show((5:Int) == 1)=false from rfl,show((5:Int) == 3)=false from rfl,show((5:Int) == 4)=false from rfl,show((5:Int) == 5)=true from rfl,ak_,av_,ba_,ai_]
      unfold ct
      by_cases hn:(fM st.1 x.2.2.1).2.1=0
      ·cases hi:eH (fM st.1 x.2.2.1) <;> simp[hn]
      ·cases hi:eH (fM st.1 x.2.2.1) <;> simp[hn,hbad,v0]
     ·rw[ac_ k5] at hst
      cases hst
end
section
variable {m:List bg} (hm:jt m=true) {fuel:Int} (hfu:0≤fuel∧fuel≤500)
include hm hfu
theorem P7 : ∀(n:Nat) (i steps:Int) (st:jm),mS n st→0≤i→i≤(m.length:Int)→0≤steps→fuel=steps+n→af m fuel steps i st.1 st.2.1 st.2.2=some (((df m n i st).1,steps+((df m n i st).2.1:Int),()),(((df m n i st).2.2.1,(df m n i st).2.2.2.1,(df m n i st).2.2.2.2,()),()))
 | 0,i,steps,st,hI,h0,h1,hp,hf=>by
  unfold df
  rw[jp]
  by_cases h:i < (m.length:Int)
  ·rw[aJ h,ae_ h,ae_ (by rw[bx_]; omega)]
   dsimp only
   rw[show steps+((0:Nat):Int)=steps by omega]
  ·rw[aE h,ac_ h]
   dsimp only
   rw[show steps+((0:Nat):Int)=steps by omega]
 | n+1,i,steps,st,hI,h0,h1,hp,hf=>by
  by_cases h:i < (m.length:Int)
  ·obtain⟨q1,q2,q3⟩:=th hm hI h0 h
   rw[acF hm hI h0 h (by omega) (by omega)]
   unfold df
   rw[ae_ h]
   by_cases hc:(bQ (m.getD i.toNat aX.dflt) i st).1=0
   ·rw[ae_ hc,ae_ hc,P7 n _ (steps+1) _ q1 q2 q3 (by omega) (by omega)]
    dsimp only
    rw[show ∀ k:Nat,steps+1+(k:Int)=steps+((k+1:Nat):Int) from fun k=>by omega]
   ·rw[ac_ hc,ac_ hc]
    rfl
  ·unfold df
   rw[jp,aE h,ac_ h]
   dsimp only
   rw[show steps+((0:Nat):Int)=steps by omega]
theorem P8 {u v w:Int} {j1:List ae} {j2:List ak} {j3:List am} : ∀(n:Nat) (i steps:Int) (st:jm),mS n st→0≤i→i≤(m.length:Int)→0≤steps→fuel=steps+n → ∃ j,bd m fuel u v w st.1 i steps 0 st.2.1 st.2.2 j1 j2 j3=some ((((df m n i st).2.2.1,j,steps+((df m n i st).2.1:Int),(df m n i st).1,(df m n i st).2.2.2.1,(df m n i st).2.2.2.2,()),()),())
 | 0,i,steps,st,hI,h0,h1,hp,hf=>by
  unfold df
  rw[kK,ae_ (by rfl)]
  by_cases h:i < (m.length:Int)
  ·rw[aJ h,ae_ h,ae_ (by rw[bx_]; omega)]
   dsimp only
   rw[show steps+((0:Nat):Int)=steps by omega]
   exact⟨_,rfl⟩
  ·rw[aE h,ac_ h]
   dsimp only
   rw[show steps+((0:Nat):Int)=steps by omega]
   exact⟨_,rfl⟩
 | n+1,i,steps,st,hI,h0,h1,hp,hf=>by
  by_cases h:i < (m.length:Int)
  ·obtain⟨q1,q2,q3⟩:=th hm hI h0 h
   rw[acG hm hI h0 h (by omega) (by omega)]
   unfold df
   rw[ae_ h]
   by_cases hc:(bQ (m.getD i.toNat aX.dflt) i st).1=0
   ·obtain⟨j,e⟩:=P8 n (bQ (m.getD i.toNat aX.dflt) i st).2.1 (steps+1) (bQ (m.getD i.toNat aX.dflt) i st).2.2 q1 q2 q3 (by omega) (by omega)
    refine⟨j,?_⟩
    rw[hc,ae_ rfl,e]
    dsimp only
    rw[show ∀ k:Nat,steps+1+(k:Int)=steps+((k+1:Nat):Int) from fun k=>by omega]
   ·refine⟨(bQ (m.getD i.toNat aX.dflt) i st).2.1,?_⟩
    rw[ac_ hc,kK,ac_ (by rw[bx_]; exact hc)]
    rfl
  ·unfold df
   rw[kK,ae_ (by rfl),aE h,ac_ h]
   dsimp only
   rw[show steps+((0:Nat):Int)=steps by omega]
   exact⟨_,rfl⟩
end
noncomputable def gN (s:List ae) (m:List bg) (fuel:Int):Int×Nat×jm:=df m fuel.toNat 0 (s,[],[])
noncomputable def qL (s:List ae) (m:List bg) (fuel:Int):Int:=if aO s=true then(if jt m=true∧cu fuel 0 400=true then 0 else 1) else 2
noncomputable def LU (s:List ae) (m:List bg) (fuel:Int):List ae×(Int×(Int×Unit)):=if qL s m fuel=0 then((if(gN s m fuel).1=0 then(gN s m fuel).2.2.1 else s),(gN s m fuel).1,((gN s m fuel).2.1:Int),()) else([],qL s m fuel,0,())
noncomputable def BM (s:List ae) (m:List bg) (fuel:Int):List ak×(List am×Unit):=if qL s m fuel=0 then((gN s m fuel).2.2.2.1,(gN s m fuel).2.2.2.2,()) else([],[],())
theorem vZ {s:List ae} {m:List bg} {fuel:Int} (h:qL s m fuel=0):aO s=true∧jt m=true∧0≤fuel∧fuel≤400:=by
 unfold qL at h
 by_cases h1:aO s=true
 ·rw[ae_ h1] at h
  by_cases h2:jt m=true∧cu fuel 0 400=true
  ·have:=bm.1 h2.2
   exact⟨h1,h2.1,this⟩
  ·rw[ac_ h2] at h
   cases h
 ·rw[ac_ h1] at h
  cases h
theorem mS.first {s:List ae} (hs:aO s=true) {n:Nat} (hn:n≤500):mS n (s,[],[]):=⟨hs,by show 0+8000*n≤9000000; omega,by show 0+n≤900000; omega⟩
section
variable {s:List ae} (h1 : ∀ c∈s,c.2.1.size≤9223372036854775807) (h2:s.length≤1000000000) {m:List bg} (h3:m.length≤2000000) (h4 : ∀ x∈m,x.2.2.1.size≤1000000000) {fuel:Int}
include h1 h2 h3 h4
theorem Fk:Ao s m fuel=some ((qL s m fuel,()),()):=by
 rw[QQ,xO h1 h2,ab_]
 unfold qL
 cases aO s with
 | false=>rfl
 | true =>
  dsimp only
  rw[ac_ (by decide),ae_ rfl,Rb h3 h4,ab_]
  cases jt m with
  | false=>rfl
  | true =>
   dsimp only
   rw[ac_ (by decide),gu,ab_]
   cases cu fuel 0 400 with
   | false=>rfl
   | true=>rfl
theorem Xy:NS s m fuel=some ((qL s m fuel,()),()):=by
 rw[Wc,Fc h1 (by omega),ab_]
 unfold qL
 cases aO s with
 | false=>rfl
 | true =>
  dsimp only
  rw[ac_ (by decide),ae_ rfl,Fj h3 h4,ab_]
  cases jt m with
  | false=>rfl
  | true =>
   dsimp only
   rw[ac_ (by decide),kf,ab_]
   cases cu fuel 0 400 with
   | false=>rfl
   | true=>rfl
omit h1 h2 h3 h4 in
theorem SQ (h:qL s m fuel=0):ql m fuel s [] []=some (((gN s m fuel).1,((gN s m fuel).2.1:Int),()),(((gN s m fuel).2.2.1,(gN s m fuel).2.2.2.1,(gN s m fuel).2.2.2.2,()),())):=by
 obtain⟨hs,hm,hf0,hf1⟩:=vZ h
 have e:=P7 hm (fuel:=fuel) ⟨hf0,by omega⟩ fuel.toNat 0 0 (s,[],[]) (mS.first hs (by omega)) (co_ _) (by omega) (co_ _) (by omega)
 have e2:l9 m fuel 0 0 s [] []=af m fuel 0 0 s [] []:=by
  conv=>rhs; rw[jp]
  rw[CZ]
  by_cases q1:decide ((0:Int) < (m.length:Int))=true
  ·rw[ae_ q1,ae_ q1]
   by_cases q2:((0:Int) == fuel)=true
   ·rw[ae_ q2,ae_ q2]
   ·rw[ac_ q2,ac_ q2]
    refine congrArg (ix m 0 aX.dflt) (funext fun y1 => ?_)
    by_cases q3:(y1.1 != 2)=true
    ·rw[ae_ q3,ae_ q3]
    ·have q4:y1.1=2:=by
      rcases Decidable.em (y1.1=2) with h | h
      ·exact h
      ·exact bh_ (bne_iff_ne.2 h) q3
     rw[ac_ q3,ac_ q3,aJ (by omega),aJ (by omega)]
  ·rw[ac_ q1,ac_ q1]
 rw[HO,e2]
 refine Eq.trans e ?_
 rw[Int.zero_add]
 rfl
omit h1 h2 h3 h4 in
theorem aa2 (h:qL s m fuel=0) : ∃ j,Ji s m fuel=some ((((gN s m fuel).2.2.1,j,((gN s m fuel).2.1:Int),(gN s m fuel).1,(gN s m fuel).2.2.2.1,(gN s m fuel).2.2.2.2,()),()),()):=by
 obtain⟨hs,hm,hf0,hf1⟩:=vZ h
 have hn:=bB hs
 obtain⟨j,e⟩:=P8 hm (fuel:=fuel) ⟨hf0,by omega⟩ (u:=0) (v:=0) (w:=0) (j1:=[]) (j2:=[]) (j3:=[]) fuel.toNat 0 0 (s,[],[]) (mS.first hs (by omega)) (co_ _) (by omega) (co_ _) (by omega)
 refine⟨j,?_⟩
 have e2:Ax m fuel 0 0 0 0 0 0 [] [] [] s [] []=bd m fuel 0 0 0 s 0 0 0 [] [] [] [] []:=by
  conv=>rhs; rw[kK]
  rw[Mx]
 rw[Uf,bi (by simp only[bl_]; omega),df_,e2]
 refine Eq.trans e ?_
 rw[Int.zero_add]
 rfl
theorem DG:ww s m fuel=some (LU s m fuel,()):=by
 rw[OC,Fk h1 h2 h3 h4,ab_]
 unfold LU
 by_cases h:qL s m fuel=0
 ·have hn:=bB (vZ h).1
  rw[ae_ h]
  dsimp only
  rw[ac_ (by rw[bne_iff_ne]; exact fun x=>x h),xS (by omega),ab_]
  dsimp only
  rw[SQ h,ab_]
  dsimp only
  by_cases hc:(gN s m fuel).1=0
  ·rw[ac_ (by rw[bne_iff_ne]; exact fun x=>x hc),ae_ hc,hc]
  ·rw[ae_ (by rw[bne_iff_ne]; exact hc),ac_ hc]
   rfl
 ·rw[ac_ h]
  dsimp only
  rw[ae_ (by rw[bne_iff_ne]; exact h)]
theorem U5:Je s m fuel=some (BM s m fuel,()):=by
 rw[T2,Fk h1 h2 h3 h4,ab_]
 unfold BM
 by_cases h:qL s m fuel=0
 ·have hn:=bB (vZ h).1
  rw[ae_ h]
  dsimp only
  rw[ac_ (by rw[bne_iff_ne]; exact fun x=>x h),xS (by omega),ab_]
  dsimp only
  rw[SQ h,ab_]
 ·rw[ac_ h]
  dsimp only
  rw[ae_ (by rw[bne_iff_ne]; exact h)]
theorem U6:Jj s m fuel=some (BM s m fuel,()):=by
 rw[Ug,Xy h1 h2 h3 h4,ab_]
 unfold BM
 by_cases h:qL s m fuel=0
 ·obtain⟨j,e⟩:=aa2 h
  rw[ae_ h]
  dsimp only
  rw[ac_ (by rw[bne_iff_ne]; exact fun x=>x h),e,ab_]
 ·rw[ac_ h]
  dsimp only
  rw[ae_ (by rw[bne_iff_ne]; exact h)]
end
def fX (t:List ae) (r:am):Nat:=t.findIdx fun c=>decide (c.1=r)
theorem SR {t:List ae} {r:am} (h : ∃ c∈t,c.1=r):fX t r < t.length∧aN t (fX t r)=r:=by
 have h1:fX t r < t.length:=List.findIdx_lt_length_of_exists (by
  obtain⟨c,hc,e⟩:=h
  exact⟨c,hc,bb_ e⟩)
 refine⟨h1,?_⟩
 have h2:=List.findIdx_getElem (xs:=t) (p:=fun c:ae=>decide (c.1=r)) (w:=h1)
 rw[JZ h1]
 exact of_decide_eq_true h2
theorem SS {t:List ae} (ht:iw t) {i:Nat} (hi:i < t.length):fX t (aN t i)=i:=by
 obtain⟨h1,h2⟩:=SR (t:=t) (r:=aN t i) ⟨t.getD i av.dflt,km hi,rfl⟩
 exact zF ht h1 hi h2
theorem En {t:List ae} (ht:aO t=true) {r:am} (h:bV r t≠eS):(fX t r < t.length∧aN t (fX t r)=r)∧de t (fX t r)=bV r t:=by
 rcases A9 (q:=r) (bN ht) with⟨c,hc,e1,e2⟩ | ⟨_,e⟩
 ·have h1:=SR (t:=t) (r:=r) ⟨c,hc,e1⟩
  refine⟨h1,?_⟩
  have:=Em (bN ht) h1.1
  rw[h1.2] at this
  exact this.symm
 ·exact bh_ e h
theorem MS {s:List ae} (hs:aO s=true) {i:Nat} (hi:i < s.length):bV (aN s i) s=de s i∧de s i≠eS:=⟨Em (bN hs) hi,IC hs _ (km hi)⟩
section
variable {s t:List ae} (hs:aO s=true) (ht:aO t=true)
include hs ht
theorem LV {ar:List ak} {F G:Nat→ac} (hag : ∀ r,(ar.any fun a=>cB a r)=true→bV r s=bV r t) (h : ∀ k∈qK s ar,F k=G (fX t (aN s k))):jy ar (bc s F)=jy ar (bc t G):=by
 rw[vV,vV]
 have pw : ∀(u:List ae) (hu:aO u=true) (H:Nat→ac),((qK u ar).map fun k=>((aN u k,H k,()):ah)).Pairwise fun a b=>cl a.1 b.1=true:=by
  intro u hu H
  rw[←vV]
  exact gp_ List.filter_sublist (SH (bN hu))
 refine IA (lt:=fun a b:ah=>cl a.1 b.1) (fun x=>mP _) (fun x y z h k=>iI h k) (pw s hs F) (pw t ht G) fun c => ?_
 rw[ea_,ea_]
 constructor
 ·rintro⟨k,hk,rfl⟩
  obtain⟨k1,k2⟩:=jI.1 hk
  have e:=MS hs k1
  have e1:=hag _ k2
  obtain⟨⟨q1,q2⟩,q3⟩:=En ht (r:=aN s k) (by rw[←e1,e.1]; exact e.2)
  refine⟨fX t (aN s k),jI.2 ⟨q1,by rw[q2]; exact k2⟩,?_⟩
  rw[q2,h k hk]
 ·rintro⟨j,hj,rfl⟩
  obtain⟨k1,k2⟩:=jI.1 hj
  have e:=MS ht k1
  have e1:=hag _ k2
  obtain⟨⟨q1,q2⟩,q3⟩:=En hs (r:=aN t j) (by rw[e1,e.1]; exact e.2)
  have hm:fX s (aN t j)∈qK s ar:=jI.2 ⟨q1,by rw[q2]; exact k2⟩
  refine⟨fX s (aN t j),hm,?_⟩
  rw[h _ hm,q2,SS (bN ht) k1]
theorem U7 {U:Nat→Prop} (hU : ∀ i,U i→i < s.length) (hcl : ∀ i,U i → ∀ k∈bP s i,U k) (hat : ∀ i,U i→bV (aN s i) s=bV (aN s i) t) (har : ∀ i,U i → ∀ r,((s9 s i).any fun a=>cB a r)=true→bV r s=bV r t) : ∀ i,U i→nU s i=nU t (fX t (aN s i)):=by
 have hm : ∀ i,U i→(fX t (aN s i) < t.length∧aN t (fX t (aN s i))=aN s i)∧de t (fX t (aN s i))=de s i:=by
  intro i hi
  have e:=MS hs (hU i hi)
  have e1:=hat i hi
  obtain⟨q1,q3⟩:=En ht (r:=aN s i) (by rw[←e1,e.1]; exact e.2)
  exact⟨q1,by rw[q3,←e1,e.1]⟩
 refine Xx hs ht hU hcl (m:=fun i=>fX t (aN s i)) (fun i j hi hj e => ?_) (fun i hi hf => ?_) (fun i f hi hf => ?_)
 ·have e:fX t (aN s i)=fX t (aN s j):=e
  have h1:=(hm i hi).1.2
  rw[e,(hm j hj).1.2] at h1
  exact(zF (bN hs) (hU j hj) (hU i hi) h1).symm
 ·show ck (de t (fX t (aN s i)))=none∧(bo (lb (de t (fX t (aN s i))))).1=_
  rw[(hm i hi).2]
  exact⟨hf,rfl⟩
 ·have ea:s9 t (fX t (aN s i))=s9 s i:=by
   unfold s9
   rw[(hm i hi).2]
  refine⟨f,by show ck (de t (fX t (aN s i)))=some f; rw[(hm i hi).2]; exact hf,fun k hk => ?_,fun j hj => ?_,fun F G h => ?_⟩
  ·obtain⟨k1,k2⟩:=jI.1 hk
   have hk:=hm k (hcl i hi k hk)
   refine jI.2 ⟨hk.1.1,?_⟩
   show((s9 t (fX t (aN s i))).any fun a=>cB a (aN t (fX t (aN s k))))=true
   rw[ea,hk.1.2]
   exact k2
  ·obtain⟨k1,k2⟩:=jI.1 hj
   have k2:((s9 t (fX t (aN s i))).any fun a=>cB a (aN t j))=true:=k2
   rw[ea] at k2
   have e:=MS ht k1
   have e1:=har i hi _ k2
   obtain⟨⟨q1,q2⟩,q3⟩:=En hs (r:=aN t j) (by rw[e1,e.1]; exact e.2)
   refine⟨fX s (aN t j),jI.2 ⟨q1,by rw[q2]; exact k2⟩,?_⟩
   show fX t (aN s (fX s (aN t j)))=j
   rw[q2,SS (bN ht) k1]
  ·refine xh (kk hf (dS hs i)) ?_
   have har':bZ f=s9 s i:=by
    unfold s9
    rw[hf]
    rfl
   rw[har']
   exact LV hs ht (har i hi) h
end
end Go.Proofs.YthbkdfcmjmmpgaaGreatDoor.Abs
