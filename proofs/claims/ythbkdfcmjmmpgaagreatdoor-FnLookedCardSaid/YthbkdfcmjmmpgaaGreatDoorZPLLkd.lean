/- FnLooked says true. -/
import Derived.Test.YthbkdfcmjmmpgaaGreatDoorZM13
set_option linter.unusedVariables false
set_option linter.unusedSimpArgs false
set_option linter.unusedSectionVars false
open Bool renaming false_eq_true→ak_,not_true→bc_
open Int renaming le_refl→co_
open List renaming getD→aw_,length_map→bp_,mem_map→ea_
open Nat renaming zero_le→di_
open Option renaming bind_some→ab_
open _root_ renaming decide_eq_true→bb_,if_neg→ac_,if_pos→ae_
namespace Go.Proofs.YthbkdfcmjmmpgaaGreatDoor.Abs
open Go
def Z1 (m:List bg):List am:=m.map (·.2.1)
theorem U8 {s:List ae} {r:am} {x:ByteArray} (hs : ∀ c∈s,c.2.1.size≤9223372036854775807) (hl:s.length≤1000000) (hx:x.size≤9223372036854775807):NW s r x=some (((jw s r x).1,(jw s r x).2,()),()):=by
 rw[Wl,(kO hx).1,xO hs (by omega),pD]
 simp only[ab_]
 unfold jw
 cases h1:aO s with
 | false=>simp
 | true =>
  cases h2:bM r with
  | false=>simp
  | true =>
   cases h3:(dk x).2 with
   | false=>simp
   | true =>
    rw[Fe (bN h1) (by omega)]
    simp only[ab_,bc_,ak_,if_false]
    by_cases h4:(ed s r (dk x).1).length≤120
    ·rw[aE (by omega),ae_ (by simp[h4])]
    ·rw[aJ (by omega),ac_ (by simp[h4])]
theorem Re (r:am) (a:ak):D1 r a=some ((cB a r,()),()):=by
 rw[Uh]
 unfold cB cu
 by_cases h1:a.1.1≤r.1 <;> by_cases h2:r.1≤a.2.1.1 <;> by_cases h3:a.1.2.1≤r.2.1 <;> by_cases h4:r.2.1≤a.2.1.2.1 <;> simp[h1,h2,h3,h4]
section
variable {c:List Int} (hc:Ir c)
include hc
theorem Kf:Ok (fun z=>z.1.2.2.1.size≤6401) (Au c):=by
 rw[Mw]
 refine Zy hc fun z2 s2 r2=>sx hc r2 fun z3 _ r3=>s6 hc r3 (by decide) fun z4 r4=>Ok.ite (fun _ => ?_) fun _ => ?_
 ·exact Ok.bnd (Pw hc r4 (by decide)) fun z5 r5=>rP hc r5 fun z6 h6 r6=>Ok.one h6
 ·exact rP hc r4 fun z7 h7 r7=>Ok.one h7
end
section
variable {m:List bg} {fuel steps:Int} {looks:List ak} {sets:List am} {n t:List ae} {q:am} (hl:looks.length≤1000000000)
include hl
theorem SW {R:Option ((Bool×Unit)×Unit)} (hR:(∀ a∈looks,cB a q=false)→ly m fuel looks steps (looks.length:Int) looks sets n q.1 q.2.1 t=some ((true,()),())) : ∀(ys pre:List ak),looks=pre++ys→(∀ a∈pre,cB a q=false)→ly m fuel looks steps (pre.length:Int) looks sets n q.1 q.2.1 t=some ((true,()),())
 | [],pre,h,hp=>by
  have e:pre=looks:=by rw[h]; simp
  rw[e] at hp ⊢
  exact hR hp
 | y :: ys,pre,h,hp=>by
  have hg:aw_ looks (Int.toNat (pre.length:Int)) ax.dflt=y:=by rw[h]; exact iL
  rw[vy,aJ (bF h),gH h,bK h,gH h,hg,Gr,bb_ rfl,ac_ (by decide)]
  show((D1 q y).bind fun z1=>_)=_
  rw[Re,ab_]
  dsimp only
  cases hy:cB y q with
  | true=>rfl
  | false =>
   rw[ac_ (by decide),aM h (by omega)]
   refine SW (R:=R) hR ys _ (aC h) fun a ha => ?_
   rcases List.mem_append.1 ha with ha | ha
   ·exact hp a ha
   ·rw[List.mem_singleton.1 ha]
    exact hy
end
theorem SX {sets:List am} {n o:List ae} (hl:sets.length≤1000000000) (hn:aO n=true) (ho:aO o=true) (h : ∀ r∈sets,bV r o=bV r n) : ∀(ys pre:List am),sets=pre++ys→oD (pre.length:Int) sets n o=some ((true,()),())
 | [],pre,e=>by
  rw[vA,aE (br e)]
 | y :: ys,pre,e=>by
  have h1:=bB hn
  have h2:=bB ho
  have hg:aw_ sets (Int.toNat (pre.length:Int)) au.dflt=y:=by rw[e]; exact iL
  rw[vA,aJ (bF e)]
  simp only[gH e,hg]
  rw[DA (iJ ho) (by omega),ab_,DA (iJ hn) (by omega),ab_]
  dsimp only
  rw[ae_ ho,ae_ hn,h y (by rw[e]; simp),eqD,bb_ rfl,ac_ (by decide),aM e (by omega)]
  exact SX hl hn ho h ys _ (aC e)
theorem SY {m:List bg} (hm:jt m=true) : ∀(n:Nat) (i:Int) (st:jm),mS n st→0≤i→(df m n i st).2.2.2.1.length≤9000000∧(df m n i st).2.2.2.2.length≤9000000
 | 0,i,st,hI,h0=>by
  have h1:=hI.lk
  have h2:=hI.se
  unfold df
  split <;> exact⟨by show st.2.1.length≤9000000; omega,by show st.2.2.length≤9000000; omega⟩
 | n+1,i,st,hI,h0=>by
  have h1:=hI.lk
  have h2:=hI.se
  by_cases hi:i < (m.length:Int)
  ·obtain⟨q1,q2,q3⟩:=th hm hI h0 hi
   by_cases hc:(bQ (m.getD i.toNat aX.dflt) i st).1=0
   ·rw[zG hi hc]
    exact SY hm n _ _ q1 q2
   ·rw[Kd hi hc]
    have h3:=q1.lk
    have h4:=q1.se
    exact⟨by show(bQ (m.getD i.toNat aX.dflt) i st).2.2.2.1.length≤9000000; omega,by show(bQ (m.getD i.toNat aX.dflt) i st).2.2.2.2.length≤9000000; omega⟩
  ·rw[Bk hi]
   exact⟨by show st.2.1.length≤9000000; omega,by show st.2.2.length≤9000000; omega⟩
theorem Qc {x:List Int} (h:x.length≤maxLen ∧ ∀ b∈x,Cf (.int .u8) b):K5 x=some ((true,()),()):=by
 rw[OF,aaI,ab_]
 dsimp only
 by_cases hb:1048576 < (x.length:Int)
 ·rw[aJ hb]
 ·rw[aE hb]
  obtain⟨⟨⟨s,m,fuel,u⟩,v⟩,hz,⟨hS,hS7⟩,hM⟩:=Gu (WX h hb)
  obtain⟨⟨⟨s0,q,text,u2⟩,v2⟩,hz2,hT⟩:=Kf (WX h hb)
  dsimp only at hS hS7 hM hT
  have hml:=hM.1
  have hsl:=hS.1
  have f1:=DG (s:=s) (m:=m) (fuel:=fuel) hS.sz (by omega) (by omega) hM.sz
  have f3:=U5 (s:=s) (m:=m) (fuel:=fuel) hS.sz (by omega) (by omega) hM.sz
  have f4:=U6 (s:=s) (m:=m) (fuel:=fuel) hS.sz (by omega) (by omega) hM.sz
  have f5:=U8 (s:=s) (r:=q) (x:=text) hS.sz (by omega) (by omega)
  have hlen:(BM s m fuel).1.length≤9000000∧(BM s m fuel).2.1.length≤9000000:=by
   unfold BM
   by_cases hc:qL s m fuel=0
   ·obtain⟨hs,hm,hf0,hf1⟩:=vZ hc
    rw[ae_ hc]
    exact SY hm fuel.toNat 0 (s,[],[]) (mS.first hs (by omega)) (co_ _)
   ·rw[ac_ hc]
    exact⟨di_ _,di_ _⟩
  have f6:wv (BM s m fuel).2.1 (BM s m fuel).2.1=some ((true,()),()):=by rw[PL (by omega),bb_ rfl]
  rw[Jt,hz]
  simp only[ab_,f1,f3,f4,f5,f6,hz2,bne_self_eq_false,ak_,if_false,bc_]
  by_cases hc0:(LU s m fuel).2.1=0
  ·rw[ac_ (by rw[bne_iff_ne]; exact fun k=>k hc0)]
   cases he:(jw s q text).2 with
   | false=>rfl
   | true =>
    rw[ac_ (by decide)]
    have hc:qL s m fuel=0:=by
     refine Classical.byContradiction fun hc => ?_
     unfold LU at hc0
     rw[ac_ hc] at hc0
     exact hc hc0
    obtain⟨hs,hm,hf0,hf1⟩:=vZ hc
    have er:LU s m fuel=((if(gN s m fuel).1=0 then(gN s m fuel).2.2.1 else s),(gN s m fuel).1,((gN s m fuel).2.1:Int),()):=ae_ hc
    have el:BM s m fuel=((gN s m fuel).2.2.2.1,(gN s m fuel).2.2.2.2,()):=ae_ hc
    have hcode:(gN s m fuel).1=0:=by
     rw[er] at hc0
     exact hc0
    have h3:aO s=true∧bM q=true∧(dk text).2=true∧(ed s q (dk text).1).length≤120:=by
     unfold jw at he
     split at he
     ·assumption
     ·cases he
    have e1:(jw s q text).1=ed s q (dk text).1:=by
     unfold jw
     rw[ae_ h3]
    have ht:aO (jw s q text).1=true:=ab5 (by omega) he
    obtain⟨_,k2⟩:=Zw hc
    refine SW (R:=none) (by omega) (fun hout => ?_) (BM s m fuel).1 [] rfl (fun a ha=>by cases ha)
    rw[vy,aE (Int.lt_irrefl _)]
    have hct:qL (jw s q text).1 m fuel=0:=by
     unfold qL
     rw[ae_ ht,ae_ ⟨hm,bm.2 ⟨hf0,hf1⟩⟩]
    have htl:(ed s q (dk text).1).length≤s.length+1:=SB _ _ _
    have hpl:((jw s q text).1.map (·.1)++Z1 m).length≤110:=by
     unfold Z1
     rw[List.length_append,bp_,bp_,e1]
     omega
    have htwo:=SU (q:=q) (B:=(jw s q text).1.map (·.1)++Z1 m) hpl hm (fun x hx=>List.mem_append_right _ (ea_.2 ⟨x,hx,rfl⟩)) fuel.toNat 0 (s,[],[]) ((jw s q text).1,[],[]) (mS.first hs (by omega)) ⟨rfl,rfl,ht,fun r hr=>by
     show bV r s=bV r (jw s q text).1
     rw[e1,pJ (bN hs),ac_ hr],fun hq=>(List.not_mem_nil hq).elim,fun c hc=>List.mem_append_left _ (ea_.2 ⟨c,hc,rfl⟩)⟩ (co_ _) hcode (by
     rw[el] at hout
     exact hout)
    obtain⟨t1,t2,t3⟩:=htwo
    have t1:(gN (jw s q text).1 m fuel).1=0:=t1
    have t2:(gN (jw s q text).1 m fuel).2.1=(gN s m fuel).2.1:=t2
    have t3:xV q ((jw s q text).1.map (·.1)++Z1 m) (gN s m fuel).2.2 (gN (jw s q text).1 m fuel).2.2:=t3
    have ert:LU (jw s q text).1 m fuel=((gN (jw s q text).1 m fuel).2.2.1,0,((gN s m fuel).2.1:Int),()):=by
     unfold LU
     rw[ae_ hct,ae_ t1,t1,t2]
    have ers:LU s m fuel=((gN s m fuel).2.2.1,0,((gN s m fuel).2.1:Int),()):=by rw[er,ae_ hcode,hcode]
    have htlen:=bB ht
    have f7:=DG (s:=(jw s q text).1) (m:=m) (fuel:=fuel) (iJ ht) (by omega) (by omega) hM.sz
    rw[f7,ab_,ert,ers]
    dsimp only
    rw[ac_ (by decide),ac_ (by rw[bne_self_eq_false]; decide)]
    refine SX (by omega) k2 t3.ok (fun r hr => ?_) (BM s m fuel).2.1 [] rfl
    rw[el] at hr
    by_cases e:r=q
    ·rw[e] at hr ⊢
     exact(t3.on hr).symm
    ·exact(t3.off r e).symm
  ·rw[ae_ (by rw[bne_iff_ne]; exact hc0)]
end Go.Proofs.YthbkdfcmjmmpgaaGreatDoor.Abs
