/- FnOpenKeeps says true. -/
import Derived.Test.YtipnjpfdlolhmaaGreatDoorZM11
import Derived.Test.YtipnjpfdlolhmaaGreatDoorZM12
set_option linter.unusedVariables false
set_option linter.unusedSimpArgs false
set_option linter.unusedSectionVars false
open List renaming drop_succ_cons→bh_,drop_zero→ce_,getD→aw_
open Nat renaming mod_lt→fd_,zero_le→de_
open Option renaming bind_some→Z1
open Option.some renaming injEq→ap_
open _root_ renaming decide_eq_true→ba_,if_neg→Z2,if_pos→Z3
namespace Go.Proofs.YtipnjpfdlolhmaaGreatDoor.Abs
open Go
theorem Oe {f:List ab} (hf:dJ f=true) {row many:Int} (hr:bA row 1 99=true) (hm:bA many 1 99=true):GL f row many=some ((f.map (cB row many false),true,()),()):=by
 have hs:=ny hf
 have hl:=hs.1
 have b1:=aH.1 hr
 have b2:=aH.1 hm
 rw[QA]
 simp only[Fv,jo (f:=f) (by omega) hs.2.1 hs.2.2,hf,eB,hr,hm,Z1,Bool.not_true,Bool.false_eq_true,if_false,if_true,MG hf (row:=row) (many:=many) (closed:=false) (by omega) (by omega)]
section
variable {row many:Int} (hr:bA row 1 99=true) (hm:bA many 1 99=true) {s n:List ac} (hs:bd s=true) (hn:cb row many false s=some n)
include hr hm hs hn
theorem M2 (hlost : ∀ i f,i < s.length→bm (cY s i)=some f→(bu f).length=(bu (f.map (cB row many false))).length) : ∀(k i:Nat),i+k=s.length→iZ row many (i:Int) (aW s (lu s)) (aW n (lu n))=some ((true,()),())
 | 0,i,h=>by
  have b2:=aH.1 hm
  obtain⟨ho,hlen,hv⟩:=Gr (by omega) hs hn hlost
  rw[pP,aL (by rw[ig]; omega),ig,ig,hlen,beq_self_eq_true]
 | k+1,i,h=>by
  have b1:=aH.1 hr
  have b2:=aH.1 hm
  have hnl:=cS hs
  obtain⟨ho,hlen,hv⟩:=Gr (by omega) hs hn hlost
  have hi:i < s.length:=by omega
  obtain⟨h1,h2⟩:=hv i hi
  have hlook:sN (aW n (lu n)) (oG row many (gY s i))=some ((lu s i,()),()):=by
   rw[Ry (sE ho fun k hk=>XD ho hk),←h1,Ue (qV ho) _ (by omega),h2]
  have hok:=(cR.1 hs).2.1 _ (uu (d:=ak.dflt) hi)
  have hrow:aA (gY s i)=true:=hok.1
  have hb:=bK.1 hrow
  have hilt:(i:Int) < ((aW s (lu s)).length:Int):=by rw[ig]; omega
  rw[pP,aQ hilt]
  simp only[dx (nn _) hilt,Int.toNat_natCast,I4 hi]
  have hw:IntKind.i64.wrap ((i:Int)+1)=((i+1:Nat):Int):=de (by omega) (by omega)
  have ih:=M2 hlost k (i+1) (by omega)
  by_cases hge:(gY s i).2.1≥row
  ·have e:((gY s i).1,IntKind.i64.wrap ((gY s i).2.1+many),())=oG row many (gY s i):=by
    unfold oG fF
    rw[uy,Z2 (by omega),de (by omega) (by omega)]
   rw[aQ hge,e,hlook,Z1,JY,ba_ rfl,Z2 (by decide),hw]
   exact ih
  ·have e:gY s i=oG row many (gY s i):=by
    unfold oG fF
    rw[uy,Z3 (by omega)]
   have hlook2:sN (aW n (lu n)) (gY s i)=some ((lu s i,()),()):=by
    conv=>lhs; rw[e]
    exact hlook
   rw[aL hge,hlook2,Z1,JY,ba_ rfl,Z2 (by decide),hw]
   exact ih
theorem M3 : ∀(ys pre:List ac),s=pre++ys→(∀ i f,i < pre.length→bm (cY s i)=some f→(bu f).length=(bu (f.map (cB row many false))).length)→ge row many (pre.length:Int) s n=some ((true,()),())
 | [],pre,h,hl=>by
  have e:pre=s:=by rw[h]; simp
  have b2:=aH.1 hm
  have ho:=Ef (by omega) hs hn
  rw[e] at hl
  have hnl:=cS hs
  have hnl2:=cS ho
  rw[pO,aL (ci h),BG (wj hs) (by omega),Z1,BG (wj ho) (by omega),Z1]
  unfold V7
  rw[Z3 hs,Z3 ho]
  exact M2 hr hm hs hn hl s.length 0 (by omega)
 | y :: ys,pre,h,hl=>by
  have hnl:=cS hs
  have hlen:s.length=pre.length+(ys.length+1):=by rw[h]; simp
  have hy:y∈s:=by rw[h]; simp
  have hsz:=mc hs y hy
  have hne:=Rp hs y hy
  have hg:aw_ s (Int.toNat (pre.length:Int)) ak.dflt=y:=by rw[h]; exact wD
  have hsr:cY s pre.length=y.2.1:=by
   unfold cY
   have:aw_ s (Int.toNat (pre.length:Int)) ak.dflt=s.getD pre.length ak.dflt:=rfl
   rw[←this,hg]
  obtain⟨b,t,hbt⟩ : ∃ b t,lb y.2.1=b :: t:=by
   cases hc:lb y.2.1 with
   | nil=>exact absurd (by rw[←fm y.2.1,hc]) hne
   | cons b t=>exact⟨b,t,rfl⟩
  have hyb:y.2.1=ba (b :: t):=by rw[←hbt,fm]
  have hx:y.2.1.size≤9223372036854775807:=by omega
  have htl:t.length≤200:=by
   have:(lb y.2.1).length≤200:=by rw[li]; exact hsz
   rw[hbt,List.length_cons] at this
   omega
  have hixs : ∀ {β:Type} (F:Int→Option β),ex y.2.1 0 F=F (b.toNat:Int):=fun F=>by rw[hyb]; exact nu
  have hsll : ∀ {β:Type} (F:ByteArray→Option β),iJ y.2.1 1 F=F (ba t):=fun F=>by
   rw[hyb]
   have:=fB (l:=b :: t) (n:=1) (f:=F) (by simp)
   exact this
  have next:(∀ i f,i < (pre++[y]).length→bm (cY s i)=some f→(bu f).length=(bu (f.map (cB row many false))).length)→ge row many (IntKind.i64.wrap ((pre.length:Int)+1)) s n=some ((true,()),()):=fun h2=>by
   rw[bi h (by omega)]
   exact M3 ys (pre++[y]) (aU h) h2
  have gq:(∀ f,bm y.2.1=some f→(bu f).length=(bu (f.map (cB row many false))).length) → ∀ i f,i < (pre++[y]).length→bm (cY s i)=some f→(bu f).length=(bu (f.map (cB row many false))).length:=by
   intro hq i f hi hf
   rw[List.length_append,List.length_singleton] at hi
   by_cases e:i=pre.length
   ·rw[e,hsr] at hf
    exact hq f hf
   ·exact hl i f (by omega) hf
  rw[pO,aQ (cr h),nq h,nq h,nq h,hg,(nw hx).1,Z1,hixs,hsll]
  by_cases hb:b=61
  ·subst hb
   rw[Z3 (by rfl),(nw (x:=ba t) (by rw[az]; omega)).1,Z1]
   dsimp only
   have hfr:(eM (ba t)).2=true→bm y.2.1=some (eM (ba t)).1:=fun hr=>by
    unfold bm
    rw[hbt,bh_,ce_,Z3 ⟨rfl,hr⟩]
   obtain⟨f,hff,hfr2⟩:=XE ((cR.1 hs).2.1 y hy).2 (by rw[hbt]; rfl)
   rw[hbt,bh_,ce_] at hfr2
   have hok:=fD hff hx
   rw[hfr2]
   dsimp only
   rw[Oe hok hr hm,Z1]
   dsimp only
   rw[Z2 (by decide),T7 hok,Z1,T7 (qx (Bz row many false) hok),Z1]
   dsimp only
   by_cases e:(bu f).length=(bu (f.map (cB row many false))).length
   ·rw[Z2 (by rw[bne_iff_ne]; omega)]
    exact next (gq fun g hg2=>by
     rw[hff] at hg2
     cases hg2
     exact e)
   ·rw[Z3 (by rw[bne_iff_ne]; omega)]
  ·have hb' : ¬((b.toNat:Int) == 61)=true:=by
    rw[beq_iff_eq]
    intro e
    apply hb
    apply UInt8.toNat_inj.1
    have:((61:UInt8).toNat)=61:=rfl
    omega
   rw[Z2 hb']
   refine next (gq fun g hg2 => ?_)
   have:=(V1 hg2).1
   rw[hbt] at this
   simp only[List.head?_cons,ap_] at this
   exact absurd this hb
end
theorem Gu {x:List Int} (h:x.length≤maxLen ∧ ∀ b∈x,Am (.int .u8) b):A0 x=some ((true,()),()):=by
 rw[Fx,Xk,Z1]
 dsimp only
 by_cases hb:1048576 < (x.length:Int)
 ·rw[aQ hb]
 ·rw[aL hb]
  obtain⟨⟨⟨s,u⟩,v⟩,hz,hS⟩:=Ej (Yz h hb)
  dsimp only at hS
  rw[hz,Z1]
  dsimp only
  have hsl:=hS.1
  have t5:Int.tmod (x.length:Int) 5=((x.length % 5:Nat):Int):=rfl
  have t3:Int.tmod (x.length:Int) 3=((x.length % 3:Nat):Int):=rfl
  have q5:x.length % 5 < 5:=fd_ _ (by decide)
  have q3:x.length % 3 < 3:=fd_ _ (by decide)
  rw[t5,t3,de (n:=1+((x.length % 5:Nat):Int)) (by omega) (by omega),de (n:=1+((x.length % 3:Nat):Int)) (by omega) (by omega)]
  have hr:bA (1+((x.length % 5:Nat):Int)) 1 99=true:=aH.2 (by omega)
  have hm:bA (1+((x.length % 3:Nat):Int)) 1 99=true:=aH.2 (by omega)
  generalize 1+((x.length % 5:Nat):Int)=row at hr ⊢
  generalize 1+((x.length % 3:Nat):Int)=many at hm ⊢
  have f1:=Oc (s:=s) hS.sz (by omega) (e:=(3,(0,0,()),eS,((0,0,()),(0,0,()),()),row,many,())) (show eS.size≤9223372036854775807 by decide)
  have f2:=Od (s:=s) hS.sz (by omega) (e:=(3,(0,0,()),eS,((0,0,()),(0,0,()),()),row,many,())) (show eS.size≤9223372036854775807 by decide)
  have hlen:(rZ s (3,(0,0,()),eS,((0,0,()),(0,0,()),()),row,many,())).1.length≤120:=by
   cases hb2:(rZ s (3,(0,0,()),eS,((0,0,()),(0,0,()),()),row,many,())).2 with
   | true=>exact cS (Uq (show eS.size≤9223372036854775807 by decide) hb2).2.1
   | false =>
    unfold rZ at hb2 ⊢
    split
    ·rename_i k
     rw[Z3 k] at hb2
     rw[RE hb2]
     exact de_ _
    ·exact de_ _
  have same:kF (rZ s (3,(0,0,()),eS,((0,0,()),(0,0,()),()),row,many,())).1 (rZ s (3,(0,0,()),eS,((0,0,()),(0,0,()),()),row,many,())).1=some ((true,()),()):=by
   rw[JN (by omega),ba_ rfl]
  rw[f1,Z1,f2,Z1]
  dsimp only
  rw[beq_self_eq_true,Z2 (by decide),same,Z1]
  dsimp only
  rw[Z2 (by decide)]
  cases hb2:(rZ s (3,(0,0,()),eS,((0,0,()),(0,0,()),()),row,many,())).2 with
  | false=>rfl
  | true =>
   obtain⟨o1,o2,o3⟩:=Uq (show eS.size≤9223372036854775807 by decide) hb2
   rw[Z2 (by decide)]
   have e:pD s (3,(0,0,()),eS,((0,0,()),(0,0,()),()),row,many,())=vv s (3,(0,0,()),eS,((0,0,()),(0,0,()),()),row,many,()):=rfl
   have e2:vv s (3,(0,0,()),eS,((0,0,()),(0,0,()),()),row,many,())=match cb row many false s with | none=>([],false) | some r=>(r,true):=by
    unfold vv
    rw[Z3 ⟨hr,hm⟩]
    rfl
   rw[o3,e,e2] at hb2 ⊢
   cases hrow:cb row many false s with
   | none=>rw[hrow] at hb2; cases hb2
   | some n=>exact M3 hr hm o1 hrow s [] rfl (fun i f hi=>by cases hi)
end Go.Proofs.YtipnjpfdlolhmaaGreatDoor.Abs
