/- FnAllOrNothing says true. -/
import Derived.Test.YthbkdfcmjmmpgaaGreatDoorZM13
set_option linter.unusedVariables false
set_option linter.unusedSimpArgs false
set_option linter.unusedSectionVars false
open Bool renaming false_eq_true→aj_,not_true→bc_
open Option renaming bind_some→ab_
open _root_ renaming decide_eq_true→bd_,if_neg→ad_,if_pos→af_,if_true→ba_
namespace Go.Proofs.YthbkdfcmjmmpgaaGreatDoor.Abs
open Go
theorem WO {m:List aZ} (hm:jg m=true) : ∀(n:Nat) (i:Int) (st:ku),qD n st→0≤i→(cX m n i st).2.2.2.2.length≤1000000
 | 0,i,st,hI,h0=>by
  have:=hI.se
  unfold cX
  split
  ·show st.2.2.length≤1000000
   omega
  ·show st.2.2.length≤1000000
   omega
 | n+1,i,st,hI,h0=>by
  have:=hI.se
  by_cases hi:i < (m.length:Int)
  ·obtain⟨q1,q2,q3⟩:=wW hm hI h0 hi
   by_cases hc:(bQ (m.getD i.toNat aW.dflt) i st).1=0
   ·rw[ui hi hc]
    exact WO hm n _ _ q1 q2
   ·rw[zk hi hc]
    have:=q1.se
    show(bQ (m.getD i.toNat aW.dflt) i st).2.2.2.2.length≤1000000
    omega
  ·rw[o0 hi]
   show st.2.2.length≤1000000
   omega
theorem abq {s:List ae} {m:List aZ} {fuel:Int} (h:mG s m fuel=0):(dM s m fuel).2.2.2.2.length≤1000000000:=by
 obtain⟨hs,hm,hf0,hf1⟩:=sS h
 exact Nat.le_trans (WO hm fuel.toNat 0 (s,[],[]) (qD.first hs (by omega)) (Int.le_refl _)) (by decide)
theorem EL {l:List ah} {r:ah} (hl:l.length≤1000000000) : ∀(ys pre:List ah),l=pre++ys→tJ l (pre.length:Int) r.1 r.2.1=some ((decide (r∈ys),()),())
 | [],pre,h=>by
  rw[Bd,aD (bj h)]
  simp
 | y :: ys,pre,h=>by
  rw[Bd,aI (bA h),bD h,aK h (by omega),EL hl ys _ (aB h)]
  show(if bk ak y r=true then _ else _)=_
  by_cases e:y=r
  ·rw[af_ (by rw[im]; exact e)]
   simp[e]
  ·rw[ad_ (by rw[im]; exact e)]
   simp[Ne.symm e]
theorem WQ {l:List ah} (r:ah) (hl:l.length≤1000000000):Iv l r=some ((decide (r∈l),()),()):=by
 rw[Tw]
 exact EL hl l [] rfl
section
variable {s n:List ae} {m:List aZ} {fuel steps:Int} {sets:List ah} {l:List db} (hl:l.length≤1000000) (hset:sets.length≤1000000000) (hin : ∀ c∈l,c.1∈sets) {R:Option ((Bool×Unit)×Unit)}
include hl hset hin
theorem R9 (hR:fU m fuel steps (l.length:Int) s n sets l=R) : ∀(ys pre:List db),l=pre++ys→fU m fuel steps (pre.length:Int) s n sets l=R
 | [],pre,h=>by
  have:pre=l:=by rw[h]; simp
  rw[this]
  exact hR
 | y :: ys,pre,h=>by
  have hg:List.getD l (Int.toNat (pre.length:Int)) mP.dflt=y:=by rw[h]; exact eX
  rw[nX,aI (bA h),gA h,hg,WQ _ hset,ab_,bd_ (hin y (by rw[h]; simp)),ad_ (by decide),aK h (by omega)]
  exact R9 hR ys _ (aB h)
end
theorem Dh {x:List Int} (h:x.length≤maxLen ∧ ∀ b∈x,BP (.int .u8) b):wh x=some ((true,()),()):=by
 rw[Cy,ZT,ab_]
 dsimp only
 by_cases hb:1048576 < (x.length:Int)
 ·rw[aI hb]
 ·rw[aD hb]
  obtain⟨⟨⟨s,m,fuel,u⟩,v⟩,hz,⟨hS,hS7⟩,hM⟩:=FP (aa3 h hb)
  dsimp only at hS hS7 hM
  rw[hz,ab_]
  dsimp only
  have hml:=hM.1
  have hsl:=hS.1
  have f1:=Df (s:=s) (m:=m) (fuel:=fuel) hS.sz (by omega) (by omega) hM.sz
  have f2:=Pv (s:=s) (m:=m) (fuel:=fuel) hS.sz (by omega) (by omega) hM.sz
  have f3:=Ug (s:=s) (m:=m) (fuel:=fuel) hS.sz (by omega) (by omega) hM.sz
  have same : ∀ l:List ae,l.length≤1000000000→fq l l=some ((true,()),()):=fun l hl=>by
   rw[LL hl,bd_ rfl]
  by_cases hc:mG s m fuel=0
  ·obtain⟨hs,hm,hf0,hf1⟩:=sS hc
   obtain⟨k1,k2⟩:=YI hc
   have hst:((dM s m fuel).2.1:Int)≤fuel:=by
    have:=HX m fuel.toNat 0 (s,[],[])
    unfold dM
    omega
   have er:EJ s m fuel=((if(dM s m fuel).1=0 then(dM s m fuel).2.2.1 else s),(dM s m fuel).1,((dM s m fuel).2.1:Int),()):=af_ hc
   have el:lkR s m fuel=((dM s m fuel).2.2.2.1,(dM s m fuel).2.2.2.2,()):=af_ hc
   by_cases hcode:(dM s m fuel).1=0
   ·have er2:EJ s m fuel=((dM s m fuel).2.2.1,0,((dM s m fuel).2.1:Int),()):=by rw[er,af_ hcode,hcode]
    have hnl:=bE k2
    have hnb:=lF k2
    have fd:=Ul (a:=s) (b:=(dM s m fuel).2.2.1) (by omega) (by omega) hS.sz hnb
    have hdl:(R8 s (dM s m fuel).2.2.1).length≤1000:=by
     unfold R8
     rw[af_ ⟨hs,k2⟩]
     have:=ZZ s (dM s m fuel).2.2.1
     omega
    have hlk:=abq hc
    simp only[f1,f2,f3,ab_,er2,el,fd,same _ (show(dM s m fuel).2.2.1.length≤1000000000 by omega),bne_self_eq_false,aj_,if_false,bc_,beq_self_eq_true,ba_,show((0:Int) == 1)=false from rfl,show((0:Int) == 2)=false from rfl]
    refine R9 (by omega) hlk (fun c hc2 => ?_) ?_ (R8 s (dM s m fuel).2.2.1) [] rfl
    ·unfold R8 at hc2
     rw[af_ ⟨hs,k2⟩,ZY] at hc2
     refine Classical.byContradiction fun hn => ?_
     have:=k1.at' c.1 hn
     obtain⟨e1,e2,e3⟩:=hc2
     exact e3 (by rw[e1,e2]; exact this.symm)
    ·have fo:=sc (s:=(dM s m fuel).2.2.1) hnb (by omega)
     rw[nX,aD (Int.lt_irrefl _)]
     by_cases h400:fuel=400
     ·rw[af_ (by rw[beq_iff_eq]; exact h400),fo,ab_,k2]
     ·have hw:IntKind.i64.wrap (fuel+1)=fuel+1:=fx (by omega) (by omega)
      have hc3:mG s m (fuel+1)=0:=by
       unfold mG
       rw[af_ hs,af_ ⟨hm,bC.2 (by omega)⟩]
      have er3:EJ s m (fuel+1)=((dM s m fuel).2.2.1,0,((dM s m fuel).2.1:Int),()):=by
       unfold EJ
       rw[af_ hc3,YH hf0 hcode,af_ hcode,hcode]
      have f4:=Df (s:=s) (m:=m) (fuel:=fuel+1) hS.sz (by omega) (by omega) hM.sz
      rw[ad_ (by rw[beq_iff_eq]; exact h400),hw,f4,ab_,fo,ab_,er3,k2]
      simp only[ba_,beq_self_eq_true,same _ (show(dM s m fuel).2.2.1.length≤1000000000 by omega),ab_]
   ·have er2:EJ s m fuel=(s,(dM s m fuel).1,((dM s m fuel).2.1:Int),()):=by rw[er,ad_ hcode]
    simp only[f1,f2,ab_,er2,same s (by omega),bne_self_eq_false,aj_,if_false,bc_,beq_self_eq_true,ba_]
    have h0:((dM s m fuel).1 != 0)=true:=by rw[bne_iff_ne]; exact hcode
    rw[h0,af_ rfl,bd_ hst]
    split
    ·rfl
    ·split
     ·rfl
     ·rfl
  ·have er:EJ s m fuel=([],mG s m fuel,0,()):=ad_ hc
   have hcd:mG s m fuel=1∨mG s m fuel=2:=by
    unfold mG at hc ⊢
    split
    ·rename_i h1
     rw[af_ h1] at hc
     split
     ·rename_i h2
      rw[af_ h2] at hc
      exact absurd rfl hc
     ·exact .inl rfl
    ·exact .inr rfl
   simp only[f1,f2,ab_,er,same [] (by simp),bne_self_eq_false,aj_,if_false,bc_,beq_self_eq_true,ba_]
   rcases hcd with e | e <;> rw[e] <;> rfl
end Go.Proofs.YthbkdfcmjmmpgaaGreatDoor.Abs
