/- FnValuesHold and FnRecalculated say true. -/
import Derived.Test.YtnodjiikdgmeaaaGreatDoorZM11
set_option linter.unusedVariables false
set_option linter.unusedSimpArgs false
set_option linter.unusedSectionVars false
namespace Go.Proofs.YtnodjiikdgmeaaaGreatDoor.Abs
open Go
theorem Zf (a b:ac):bv af a b=decide (a=b):=by
 by_cases h:a=b
 ·rw[decide_eq_true h]; exact(kD rfl).2 h
 ·rw[decide_eq_false h,Bool.eq_false_iff]; exact fun k=>h ((kD rfl).1 k)
theorem zo {xs ys:List ac} (hl:xs.length≤1000000000):eu xs ys=some ((decide (xs=ys),()),()):=by
 rw[H8,UC]
 by_cases h:xs.length=ys.length
 ·rw[decide_eq_true h,if_neg (by decide)]
  exact CM (d:=af.dflt) (P:=fun i=>nr xs ys i) hl h.symm (fun i=>by rw[DU]; simp only[Zf]) xs ys [] [] rfl rfl rfl
 ·rw[decide_eq_false h,if_pos (by rfl),decide_eq_false (fun e=>h (congrArg _ e))]
theorem CT {l:List al} {r:al} (hl:l.length≤1000000000) : ∀(ys pre:List al),l=pre++ys→uf l (pre.length:Int) r.1 r.2.1=some ((decide (r∈ys),()),())
 | [],pre,h=>by
  rw[A9,ax (bw h)]
  simp
 | y :: ys,pre,h=>by
  rw[A9,aF (bH h),bC h,aO h (by omega),CT hl ys _ (av h)]
  show(if bv am y r=true then _ else _)=_
  by_cases e:y=r
  ·rw[if_pos (by rw[mS]; exact e)]
   simp[e]
  ·rw[if_neg (by rw[mS]; exact e)]
   simp[Ne.symm e]
theorem Sv {l:List al} (r:al) (hl:l.length≤1000000000):H0 l r=some ((decide (r∈l),()),()):=by
 rw[Rt]
 exact CT hl l [] rfl
section
variable {s:List ae} (hs:aW s=true)
include hs
theorem NX {r:al}:bN s (s.length:Int) 0 r=some ((kI (fun c=>bv am c.1 r) s 0,()),(r,())):=by
 have hn:=aX hs
 exact vM (s:=s) (d:=ap.dflt) (p:=fun c:ae=>bv am c.1 r) (P:=fun j=>bN s (s.length:Int) j r) (F:=fun j=>some ((j,()),(r,()))) (by omega) (fun j=>by
  rw[fO]
  simp only[wL,Option.bind_some]) s [] rfl
theorem OX {i:Nat} (hi:i < s.length):B4 s (au s i)=some ((pf s i,()),()):=by
 have hn:=aX hs
 have e:ep s (s.length:Int) 0 (au s i).1 (au s i).2.1=bN s (s.length:Int) 0 (au s i):=by
  rw[lv,fO]
  simp only[H9,wL] <;> rfl
 have hx:kI (fun c:ae=>bv am c.1 (au s i)) s 0=(i:Int):=by
  by_cases h:kI (fun c:ae=>bv am c.1 (au s i)) s 0 = -1
  ·have:=Qe h (s.getD i ap.dflt) (hY hi)
   have e2:bv am (s.getD i ap.dflt).1 (au s i)=true:=by rw[mS]; rfl
   rw[e2] at this
   cases this
  ·obtain⟨pre,y,ys,h1,h2,h3,h4⟩:=Qf h
   rw[h4]
   have h5:=Hx h1
   have h6:pre.length < s.length:=by rw[h1]; simp
   rw[mS] at h2
   have:=rL (bP hs) h6 hi (h5.trans h2)
   omega
 rw[Mz,sq (lO hs) (by omega),hs,Option.bind_some]
 dsimp only
 rw[if_neg (by decide),mJ,e,NX hs,Option.bind_some,hx]
 dsimp only
 rw[aF (by omega),qL (by omega) (lO hs),Option.bind_some]
 dsimp only
 rw[Kd hn hi]
 rfl
theorem X0 {l:List ac} (hl:fU l=true) {f:List aa} {x:ByteArray} (hx:x.size≤9223372036854775807) (hf:fe x=(f,true)) (hok:eH f=true):QO x l=some ((gh f l,()),()):=by
 have hsm:=vJ hok
 have hfl:=hsm.1
 have hll:=NU hl
 rw[VL,(qI hx).2.1,hf,Option.bind_some]
 dsimp only
 rw[if_neg (by decide),VZ (by omega) (fun c hc=>Nat.le_trans (dj (iw hl c hc)) (by decide)) (by omega) hsm.2.1 hsm.2.2]
 unfold Dn
 rw[if_pos hok,if_pos hl]
 rfl
theorem Qn : ∀(k i:Nat),i+k=s.length→gq (i:Int) s (aB s (e8 s))=some ((true,()),())
 | 0,i,h=>by
  have hn:=aX hs
  have hv:=jR hs fun k hk=>DP hs hk
  rw[qW,ax (by omega),et,if_pos (beq_self_eq_true _),qD (by rw[et]; omega) (fun c hc=>Nat.le_trans (dj (iw hv c hc)) (by decide)),hv]
  rfl
 | k+1,i,h=>by
  have hn:=aX hs
  have hv:=jR hs fun k hk=>DP hs hk
  have hi:i < s.length:=by omega
  have ih:=Qn k (i+1) (by omega)
  have hw:IntKind.i64.wrap ((i:Int)+1)=((i+1:Nat):Int):=kH (by omega) (by omega)
  have hilt:(i:Int) < (s.length:Int):=by omega
  have hsz:(bS s i).size≤200:=mT hs _ (hY hi)
  have hne:bS s i≠eS:=Hv hs _ (hY hi)
  have hsrc:ji (bS s i)=true:=((j9.1 hs).2.1 _ (hY hi)).2
  have ha:=nG hs i
  obtain⟨b,t,hbt⟩ : ∃ b t,lb (bS s i)=b :: t:=by
   cases hc:lb (bS s i) with
   | nil=>exact absurd (by rw[←eO (bS s i),hc]) hne
   | cons b t=>exact⟨b,t,rfl⟩
  have hyb:bS s i=ba (b :: t):=by rw[←hbt,eO]
  have htl:t.length≤200:=by
   have:(lb (bS s i)).length≤200:=by rw[jy]; exact hsz
   rw[hbt,List.length_cons] at this
   omega
  have hixs : ∀ {β:Type} (F:Int→Option β),eF (bS s i) 0 F=F (b.toNat:Int):=fun F=>by rw[hyb]; exact ot
  have hsll : ∀ {β:Type} (F:ByteArray→Option β),iT (bS s i) 1 F=F (ba t):=fun F=>by
   rw[hyb]
   have:=fR (l:=b :: t) (n:=1) (f:=F) (by simp)
   exact this
  have hrv:dZ (bS s i)=some (((bb (lb (bS s i))).1,(bb (lb (bS s i))).2,()),()):=by
   have:=lz (w:=lb (bS s i)) (by rw[jy]; omega)
   rw[eO] at this
   exact this
  have hlook:yu (aB s (e8 s)) (au s i)=some ((e8 s i,()),()):=by rw[HG hv,Kk (bP hs) _ hi]
  have hat:(List.getD s (Int.toNat (i:Int)) ap.dflt).1=au s i:=rfl
  have hsr:(List.getD s (Int.toNat (i:Int)) ap.dflt).2.1=bS s i:=rfl
  rw[qW,aF hilt]
  simp only[bD (nn _) hilt,hat,hsr]
  rw[hlook,Option.bind_some,hixs,hw]
  dsimp only
  by_cases hb:b=61
  ·subst hb
   obtain⟨f,h1,h2⟩:=XZ hsrc (by rw[hbt]; rfl)
   rw[hbt,List.drop_succ_cons,List.drop_zero] at h2
   have hok:=j8 h1 (cj hs i)
   rw[h1] at ha
   dsimp only at ha
   rw[if_neg (by decide),OX hs hi,Option.bind_some]
   dsimp only
   by_cases hr:pf s i=true
   ·rw[if_pos hr] at ha
    rw[if_pos hr,ha,show((4,5,(⟨#[]⟩:ByteArray),()):ab)=vE 5 from rfl,Dh,decide_eq_true rfl,if_neg (by decide)]
    exact ih
   ·rw[if_neg hr] at ha
    rw[if_neg hr,hsll,X0 hs hv (by rw[ay]; omega) h2 hok,Option.bind_some,ha,Dh,decide_eq_true rfl,if_neg (by decide)]
    exact ih
  ·have hb':((b.toNat:Int) != 61)=true:=by
    rw[bne_iff_ne]
    intro e
    apply hb
    apply UInt8.toNat_inj.1
    have:((61:UInt8).toNat)=61:=rfl
    omega
   have hf:bI (bS s i)=none:=by
    cases hf:bI (bS s i) with
    | none=>rfl
    | some f =>
     have:=(Wt hf).1
     rw[hbt] at this
     simp only[List.head?_cons,Option.some.injEq] at this
     exact absurd this hb
   rw[hf] at ha
   dsimp only at ha
   rw[if_pos hb',hrv,Option.bind_some,←ha,Dh,decide_eq_true rfl,if_neg (by decide)]
   exact ih
end
theorem FK {x:List Int} (h:x.length≤maxLen ∧ ∀ b∈x,AW (.int .u8) b):A1 x=some ((true,()),()):=by
 rw[Fc,P2,Option.bind_some]
 dsimp only
 by_cases hb:1048576 < (x.length:Int)
 ·rw[aF hb]
 ·rw[ax hb]
  obtain⟨⟨⟨s,u⟩,v⟩,hz,hS⟩:=FJ (Uk h hb)
  dsimp only at hS
  have hsl:=hS.1
  have f1:=CR (s:=s) hS.sz (by omega)
  have f2:=CS (s:=s) hS.sz (by omega)
  have f3:=lM (s:=s) hS.sz (by omega)
  have hlen:(gQ s).length≤1000000000:=by
   unfold gQ
   split
   ·rename_i hs
    rw[et]
    omega
   ·exact Nat.zero_le _
  have f4:eu (gQ s) (gQ s)=some ((true,()),()):=by rw[zo hlen,decide_eq_true rfl]
  rw[hz,Option.bind_some]
  simp only[f1,f2,f3,f4,Option.bind_some,Bool.not_true,Bool.false_eq_true,if_false]
  cases hs:aW s with
  | false=>rfl
  | true =>
   rw[if_neg (by decide)]
   have e:gQ s=aB s (e8 s):=if_pos hs
   rw[e]
   exact Qn hs s.length 0 (by omega)
structure rN (s t:List ae) (refs:List al):Prop where
 ok:aW s=true→aW t=true ∧ ∀ r,r ∉ refs→dk r t=dk r s
 no:aW s=false→aW t=false
theorem rN.first (s:List ae):rN s s []:=⟨fun h=>⟨h,fun _ _=>rfl⟩,fun h=>h⟩
theorem rN.next {s t:List ae} {refs:List al} (h:rN s t refs) {r:al} {x:ByteArray} (hx:x.size≤9223372036854775807) (hk:(zm t r x).2=true):rN s (zm t r x).1 (refs++[r]):=by
 have h2:=YO hx hk
 have h3:aW t=true∧bK r=true∧(fE x).2=true∧(nW t r (fE x).1).length≤120:=by
  unfold zm at hk
  split at hk
  ·assumption
  ·cases hk
 have e:(zm t r x).1=nW t r (fE x).1:=by
  unfold zm
  rw[if_pos h3]
 refine⟨fun hs=>⟨h2,fun q hq => ?_⟩,fun hs => ?_⟩
 ·rw[List.mem_append,List.mem_singleton,not_or] at hq
  rw[e,UA (bP h3.1),if_neg hq.2]
  exact(h.ok hs).2 q hq.1
 ·rw[h.no hs] at h3
  cases h3.1
section
variable {c:List Int} (hc:EB c) {s:List ae} (hS:qJ s)
include hc hS
theorem UX {t:List ae} {refs:List al} (ht:qJ t) (hr:refs.length≤10) (hE:rN s t refs):Ok (fun z => ∃ s',qJ s'∧qJ z.1.1∧z.1.2.1=gQ s'∧z.1.2.2.1.length≤10∧rN s' z.1.1 z.1.2.2.1) ((kN s).bind fun z4=>(some ((t,z4.1.1,refs,()),(())))):=by
 have:=hS.1
 rw[CS hS.sz (by omega),Option.bind_some]
 exact Ok.one ⟨s,hS,ht,rfl,hr,hE⟩
theorem FL : ∀(n:Nat) {d:aV} {t:List ae} {refs:List al},n+refs.length≤10→Rd c d→qJ t→rN s t refs→Ok (fun z => ∃ s',qJ s'∧qJ z.1.1∧z.1.2.1=gQ s'∧z.1.2.2.1.length≤10∧rN s' z.1.1 z.1.2.2.1) (fx (n:Int) d s refs t)
 | 0,d,t,refs,hn,h,ht,hE=>by
  rw[mK,ax (by decide)]
  exact UX hc hS ht (by omega) hE
 | n+1,d,t,refs,hn,h,ht,hE=>by
  have hw:IntKind.i64.wrap (((n+1:Nat):Int) - 1)=(n:Int):=by rw[wr (by omega) (by omega)]; omega
  have htl:=ht.1
  rw[mK,aF (by omega),hw]
  refine Dz hc h fun y _ hy=>DK hc hy fun x hx hz => ?_
  have hen:=CK (s:=t) (r:=y.1.1) (x:=x.1.1) ht.2
  rw[CJ (by omega) ht.sz (by omega),Option.bind_some]
  refine Ok.ite (fun hk=>Ok.app (by simp only[List.length_singleton]; omega) ?_) fun _ => ?_
  ·exact FL n (by rw[List.length_append,List.length_singleton]; omega) hz hen.up (hE.next (by omega) hk)
  ·exact FL n (by omega) hz ht hE
theorem Qo : ∀(n:Nat) {d:aV} {refs:List al},n+refs.length≤10→Rd c d→rN s s refs→Ok (fun z => ∃ s',qJ s'∧qJ z.1.1∧z.1.2.1=gQ s'∧z.1.2.2.1.length≤10∧rN s' z.1.1 z.1.2.2.1) (io (n:Int) d s refs)
 | 0,d,refs,hn,h,hE=>by
  rw[nL,ax (by decide)]
  exact UX hc hS hS (by omega) hE
 | n+1,d,refs,hn,h,hE=>by
  have hw:IntKind.i64.wrap (((n+1:Nat):Int) - 1)=(n:Int):=by rw[wr (by omega) (by omega)]; omega
  have htl:=hS.1
  rw[nL,aF (by omega),hw]
  refine Dz hc h fun y _ hy=>DK hc hy fun x hx hz => ?_
  have hen:=CK (s:=s) (r:=y.1.1) (x:=x.1.1) hS.2
  rw[CJ (by omega) hS.sz (by omega),Option.bind_some]
  refine Ok.ite (fun hk=>Ok.app (by simp only[List.length_singleton]; omega) ?_) fun _ => ?_
  ·exact FL hc hS n (by rw[List.length_append,List.length_singleton]; omega) hz hen.up (hE.next (by omega) hk)
  ·exact Qo n (by omega) hz hE
end
theorem AP {c:List Int} (hc:EB c):Ok (fun z => ∃ s',qJ s'∧qJ z.1.1∧z.1.2.1=gQ s'∧z.1.2.2.1.length≤10∧rN s' z.1.1 z.1.2.2.1) (nR c):=by
 rw[Af]
 refine NW hc (by decide) (by decide) fun z1 s1 r1=>Dy hc r1 (by decide) fun z2 h0 h1 r2 => ?_
 rw[wr (by omega) (by omega),show 1+z2.1.1=((1+z2.1.1.toNat:Nat):Int) by omega]
 exact Qo hc s1 _ (by simp only[List.length_nil]; omega) r2 (rN.first _)
noncomputable def xE (s:List ae) (refs:List al):List al:=((List.range s.length).filter (bW s refs)).map (au s)
section
variable {s:List ae} (hs:aW s=true) {refs:List al} (hr:refs.length≤120)
include hs
theorem NY:(xE s refs).length≤120:=by
 unfold xE
 rw[List.length_map]
 have:=List.length_filter_le (bW s refs) (List.range s.length)
 rw[List.length_range] at this
 have:=aX hs
 omega
theorem NZ {b:List Bool} (hb:b=(List.range s.length).map (bW s refs)) : ∀(k i:Nat) (acc:List al),i+k=s.length→acc.length≤i→oi s (s.length:Int) (i:Int) acc b=some ((acc++((List.range' i k).filter (bW s refs)).map (au s),()),())
 | 0,i,acc,h,ha=>by
  rw[yO,ax (by omega)]
  simp
 | k+1,i,acc,h,ha=>by
  have hn:=aX hs
  have hi:i < s.length:=by omega
  have hw:IntKind.i64.wrap ((i:Int)+1)=((i+1:Nat):Int):=kH (by omega) (by omega)
  have hbl:b.length=s.length:=by rw[hb,List.length_map,List.length_range]
  have hg:List.getD b (Int.toNat (i:Int)) false=bW s refs i:=by
   rw[hb,Int.toNat_natCast,List.getD_eq_getElem?_getD,List.getElem?_map,List.getElem?_range hi]
   rfl
  rw[yO,aF (by omega),bD (nn _) (by omega),hg,hw,List.range'_succ,List.filter_cons]
  by_cases ht:bW s refs i=true
  ·rw[if_pos ht,if_pos ht,jQ (nE (d:=ap.dflt) hi),bp (by simp only[List.length_singleton]; omega),NZ hb k (i+1) _ (by omega) (by rw[List.length_append,List.length_singleton]; omega)]
   rw[List.map_cons,List.append_assoc]
   rfl
  ·rw[if_neg ht,if_neg ht]
   exact NZ hb k (i+1) acc (by omega) (by omega)
include hr
theorem OY:E6 s refs=some ((xE s refs,()),()):=by
 have hn:=aX hs
 rw[OI,sq (lO hs) (by omega),hs,Option.bind_some]
 dsimp only
 rw[if_neg (by decide),ax (by omega),qL (by omega) (lO hs),Option.bind_some]
 dsimp only
 rw[HE hs hr,Option.bind_some]
 dsimp only
 rw[List.length_map,List.length_range]
 have:=NZ hs (refs:=refs) rfl s.length 0 [] (by omega) (Nat.le_refl _)
 refine Eq.trans this ?_
 unfold xE
 rw[List.nil_append,List.range_eq_range']
theorem N0:E7 s refs=some ((xE s refs,()),()):=by
 have hn:=aX hs
 rw[OJ,lM (lO hs) (by omega),hs,Option.bind_some]
 dsimp only
 rw[if_neg (by decide),ax (by omega),EK hs hr]
 rfl
end
section
variable {s t:List ae} (hs:aW s=true) (ht:aW t=true) {refs:List al} (hag : ∀ r,r ∉ refs→dk r t=dk r s)
include hs ht hag
theorem Qp : ∀(k i:Nat),i+k=t.length→gk (i:Int) (aB s (e8 s)) (aB t (e8 t)) (xE t refs)=some ((true,()),())
 | 0,i,h=>by
  rw[om,ax (by rw[et]; omega)]
 | k+1,i,h=>by
  have hn:=aX ht
  have hv:=jR hs fun k hk=>DP hs hk
  have hi:i < t.length:=by omega
  have hw:IntKind.i64.wrap ((i:Int)+1)=((i+1:Nat):Int):=kH (by omega) (by omega)
  have hilt:(i:Int) < ((aB t (e8 t)).length:Int):=by rw[et]; omega
  have hm:decide (au t i∈xE t refs)=bW t refs i:=by
   rw[Bool.eq_iff_iff,decide_eq_true_eq]
   unfold xE
   rw[Hy (bP ht) hi (fun j hj=>List.mem_range.1 (List.mem_filter.1 hj).1),List.mem_filter]
   exact⟨fun h=>h.2,fun h=>⟨List.mem_range.2 hi,h⟩⟩
  have hl:=NY ht (refs:=refs)
  have ih:=Qp k (i+1) (by omega)
  rw[om,aF hilt]
  simp only[bD (nn _) hilt]
  rw[Int.toNat_natCast,Ke hi,Sv _ (by omega),Option.bind_some,hm,hw]
  dsimp only
  cases hb:bW t refs i with
  | true =>
   rw[if_neg (by decide)]
   exact ih
  | false =>
   rw[if_pos (by decide),HG hv,Option.bind_some,Kl hs ht hag hi hb,Dh,decide_eq_true rfl,if_neg (by decide)]
   exact ih
end
theorem CU {x:List Int} (h:x.length≤maxLen ∧ ∀ b∈x,AW (.int .u8) b):wz x=some ((true,()),()):=by
 rw[B9,P2,Option.bind_some]
 dsimp only
 by_cases hb:1048576 < (x.length:Int)
 ·rw[aF hb]
 ·rw[ax hb]
  obtain⟨⟨⟨t,old,refs,u⟩,v⟩,hz,s,hS,hT,hold,hrl,hE⟩:=AP (Uk h hb)
  dsimp only at hT hold hrl hE
  subst hold
  have hsl:=hS.1
  have htl:=hT.1
  have hvs:(gQ s).length≤121 ∧ ∀ c∈gQ s,c.2.1.2.2.1.size≤9223372036854775807:=by
   unfold gQ
   split
   ·rename_i hs
    have hv:=jR hs fun k hk=>DP hs hk
    exact⟨by rw[et]; omega,fun c hc=>Nat.le_trans (dj (iw hv c hc)) (by decide)⟩
   ·exact⟨Nat.zero_le _,fun c hc=>by cases hc⟩
  have f1:=FI (s:=t) (old:=gQ s) (ch:=refs) hT.sz (by omega) hvs.2 (by omega) (by omega)
  have f2:=FH (s:=t) (old:=gQ s) (ch:=refs) hT.sz (by omega) hvs.2 (by omega) (by omega)
  have f3:=lM (s:=t) hT.sz (by omega)
  have f4:=vx (xs:=gQ s) (by omega) hvs.2
  have hrec:(vV t (gQ s) refs).length≤1000000000:=by
   unfold vV
   split
   ·rw[et]
    omega
   ·exact Nat.zero_le _
  have f5:eu (vV t (gQ s) refs) (vV t (gQ s) refs)=some ((true,()),()):=by rw[zo hrec,decide_eq_true rfl]
  rw[hz,Option.bind_some]
  simp only[f1,f2,f3,f4,f5,Option.bind_some,Bool.not_true,Bool.false_eq_true,if_false]
  cases ht:aW t with
  | false=>rfl
  | true =>
   rw[if_neg (by decide)]
   cases hv:fU (gQ s) with
   | false=>rfl
   | true =>
    rw[if_neg (by decide)]
    have hs:aW s=true:=by
     cases hs:aW s with
     | true=>rfl
     | false =>
      rw[hE.no hs] at ht
      cases ht
    obtain⟨_,hag⟩:=hE.ok hs
    have e1:gQ s=aB s (e8 s):=if_pos hs
    have e2:vV t (gQ s) refs=aB t (e8 t):=by
     unfold vV
     rw[if_pos ⟨ht,hv,by omega⟩,e1]
     exact tf fun k hk=>WI hs ht hag k hk
    have e3:gQ t=aB t (e8 t):=if_pos ht
    have f6:=OY ht (refs:=refs) (by omega)
    have f7:=N0 ht (refs:=refs) (by omega)
    have hl:=NY ht (refs:=refs)
    have f8:wy (xE t refs) (xE t refs)=some ((true,()),()):=by rw[ND (by omega),decide_eq_true rfl]
    have f9:=CR (s:=t) hT.sz (by omega)
    rw[e2] at f5
    have e4:vV t (aB s (e8 s)) refs=aB t (e8 t):=by rw[←e1]; exact e2
    simp only[f6,f7,f8,f9,e2,e4,e3,f5,e1,Option.bind_some,Bool.not_true,Bool.false_eq_true,if_false]
    exact Qp hs ht hag t.length 0 (by omega)
end Go.Proofs.YtnodjiikdgmeaaaGreatDoor.Abs
