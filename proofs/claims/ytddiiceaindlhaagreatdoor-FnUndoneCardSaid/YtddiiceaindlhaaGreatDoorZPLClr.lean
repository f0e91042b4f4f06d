/- FnCleared, FnEditsParted and FnUndone say true. -/
import Derived.Test.YtddiiceaindlhaaGreatDoorZPT53
import Derived.Test.YtddiiceaindlhaaGreatDoorZP7
set_option linter.unusedVariables false
set_option linter.unusedSimpArgs false
set_option linter.unusedSectionVars false
namespace Go.Proofs.YtddiiceaindlhaaGreatDoor.Abs
open Go
theorem Mf {s:List ab} {e:cD} (hx:e.2.2.1.size≤9223372036854775807):(e8 s e).1.length≤120:=by
 cases hb:(e8 s e).2 with
 | true=>exact(ch (Ai hx hb).2.1).1
 | false =>
  unfold e8 at hb ⊢
  split
  ·rename_i k
   rw[if_pos k] at hb
   rw[NO hb]
   exact Nat.zero_le _
  ·exact Nat.zero_le _
theorem SM {s:List ab} {L:List cD} (hx : ∀ e∈L,e.2.2.1.size≤9223372036854775807):(q5 s L).1.length≤120:=by
 unfold q5
 split
 ·rename_i k
  cases h:iA s L with
  | none=>exact Nat.zero_le _
  | some t=>exact(ch (Kn hx k.1 h)).1
 ·exact Nat.zero_le _
theorem NP {s:List ab} (h:aH s=true) : ∀ c∈s,c.2.1.size≤9223372036854775807:=fun c hc=>Nat.le_trans (pd h c hc) (by decide)
theorem PX {s:List ab} {r:ai} (h:aH s=true):qG s r=some ((bp r s,()),()):=by
 have:=gK h
 rw[Ke (fun c hc=>Nat.le_trans (pd h c hc) (by decide)) (by omega),if_pos h]
theorem PY (r:ai) (a:aW):Fh r a=some ((bz r.1 a.1.1 a.2.1.1 && bz r.2.1 a.1.2.1 a.2.1.2.1,()),()):=by
 rw[M0]
 simp only[bz]
 by_cases h1:r.1≥a.1.1
 ·rw[aI h1]
  by_cases h2:r.1≤a.2.1.1
  ·rw[aI h2]
   by_cases h3:r.2.1≥a.1.2.1
   ·rw[aI h3]
    by_cases h4:r.2.1≤a.2.1.2.1
    ·simp[h1,h2,h3,h4]
    ·simp[h1,h2,h3,h4]
   ·rw[aE h3]
    simp[h3]
  ·rw[aE h2]
   simp[h2]
 ·rw[aE h1]
  simp[h1]
theorem Mg {s:List ab} {a:aW} (h:ji a=true):gb s (pm a)=(ca a s,true):=by
 unfold gb
 rw[if_neg (show ¬(pm a).1=1 from by show ¬(2:Int)=1; decide),if_pos (show(pm a).1=2 from rfl)]
 exact if_pos h
theorem SN {s:List ab} {a:aW} (h:(e8 s (pm a)).2=true):aH s=true∧ji a=true∧(e8 s (pm a)).1=ca a s:=by
 obtain⟨h1,h2,h3⟩:=Ai (s:=s) (e:=pm a) (by show(⟨#[]⟩:ByteArray).size≤_; decide) h
 rw[h3] at h ⊢
 have ha:ji a=true:=by
  unfold gb at h
  rw[if_neg (show ¬(pm a).1=1 from by show ¬(2:Int)=1; decide),if_pos (show(pm a).1=2 from rfl)] at h
  cases k:ji a with
  | true=>rfl
  | false =>
   have k':ji (pm a).2.2.2.1=false:=k
   rw[k'] at h
   cases h
 rw[Mg ha]
 exact⟨h1,ha,rfl⟩
section
variable {s:List ab} (hs:aH s=true) {a:aW} (ha:ji a=true) (hr:aH (ca a s)=true)
include hs ha hr
theorem Kt : ∀(ys pre:List ab),s=pre++ys→jf (pre.length:Int) s a.1 a.2.1 2 0 0 (⟨#[]⟩:ByteArray) a 0 0 (ca a s)=some ((true,()),())
 | [],pre,h=>by
  have hl:=ch hs
  have hc:=ch hr
  have hle:(ca a s).length≤s.length:=List.length_filter_le _ _
  rw[rr,aE (ct h)]
  have h1:=qu (s:=ca a s) (e:=pm a) (NP hr) (by omega) (by show(⟨#[]⟩:ByteArray).size≤_; decide)
  have h2:e8 (ca a s) (pm a)=(ca a s,true):=by
   unfold e8
   rw[if_pos hr,Mg ha,SB]
  rw[h2] at h1
  refine(congrArg (fun o=>Option.bind o _) h1).trans ?_
  have h3:=jZ (xs:=ca a s) (ys:=ca a s) (by omega)
  have h4:((ca a s).length:Int)≤(s.length:Int):=by omega
  simp[h3,h4]
 | y :: ys,pre,h=>by
  have hl:=ch hs
  have ih:=Kt ys (pre++[y]) (aZ h)
  have hd:List.getD s (Int.toNat (pre.length:Int)) ag.dflt=y:=by
   rw[h,List.getD_eq_getElem?_getD]
   simp
  have hm:y∈s:=by rw[h]; exact List.mem_append_right _ List.mem_cons_self
  have hsy:=SA (a:=a) (q:=y.1) (eB hs)
  rw[rr,aI (cK h),ir h,ir h,hd]
  have hw:=PY y.1 a
  refine(congrArg (fun o=>Option.bind o _) hw).trans ?_
  simp only[Option.bind_some]
  have e0:bp y.1 s=y.2.1:=iy (eB hs) hm
  cases hb:(bz y.1.1 a.1.1 a.2.1.1 && bz y.1.2.1 a.1.2.1 a.2.1.2.1) with
  | true =>
   rw[hb,if_pos rfl] at hsy
   rw[if_pos rfl,ir h,PX hr,hsy,bk h (by omega)]
   simp only[Option.bind_some]
   refine(if_neg ?_).trans ih
   simp[eS]
  | false =>
   rw[hb,if_neg (by decide)] at hsy
   rw[if_neg (by decide),ir h,PX hr,hsy,bk h (by omega)]
   simp only[Option.bind_some]
   refine(if_neg ?_).trans ih
   simp[e0]
end
theorem HW {x:List Int} (h:x.length≤maxLen ∧ ∀ b∈x,vK (.int .u8) b):DI x=some ((true,()),()):=by
 rw[HR,FR,Option.bind_some]
 dsimp only
 by_cases hb:1048576 < (x.length:Int)
 ·rw[aI hb]
 ·rw[aE hb]
  obtain⟨⟨⟨s,u⟩,v⟩,hz,hs⟩:=CS (EC h hb)
  obtain⟨⟨⟨a,u'⟩,v'⟩,hz',_⟩:=ET (EC h hb)
  rw[hz,hz',Option.bind_some,Option.bind_some]
  dsimp only at hs ⊢
  have hs1:=hs.1
  have he:(pm a).2.2.1.size≤9223372036854775807:=by show(⟨#[]⟩:ByteArray).size≤_; decide
  have m1:=qu (s:=s) (e:=pm a) hs.sz (by omega) he
  have m2:=vp (s:=s) (e:=pm a) hs.sz (by omega) he
  have hn:=Mf (s:=s) he
  have c1:=jZ (xs:=(e8 s (pm a)).1) (ys:=(e8 s (pm a)).1) (by omega)
  refine(congrArg (fun o=>Option.bind o _) m1).trans ?_
  simp only[Option.bind_some]
  refine(congrArg (fun o=>Option.bind o _) m2).trans ?_
  simp only[Option.bind_some,c1,beq_self_eq_true,decide_true,Bool.not_true,Bool.false_eq_true,if_false,if_true]
  cases hk:(e8 s (pm a)).2 with
  | false=>rfl
  | true =>
   simp only[Bool.not_true,Bool.false_eq_true,if_false]
   obtain⟨h1,h2,h3⟩:=SN hk
   have h4:=(Ai (s:=s) (e:=pm a) he hk).2.1
   rw[h3] at h4 ⊢
   exact Kt h1 h2 h4 s [] rfl
theorem SO {s:List ab} {l:List cD} (h:(q5 s l).2=true):aH s=true∧l.length≤360∧iA s l=some (q5 s l).1:=by
 unfold q5 at h ⊢
 by_cases k:aH s=true∧l.length≤360
 ·rw[if_pos k] at h ⊢
  refine⟨k.1,k.2,?_⟩
  cases e:iA s l with
  | none=>rw[e] at h; cases h
  | some t=>rfl
 ·rw[if_neg k] at h
  cases h
theorem CT {s t:List ab} {l:List cD} (h:aH s=true) (hl:l.length≤360) (e:iA s l=some t):q5 s l=(t,true):=by
 unfold q5
 rw[if_pos ⟨h,hl⟩,e]
theorem SP {α β:Type} {xs:List α} {i:Int} {f:List α→Option β} (h0:0≤i) (h1:i≤(xs.length:Int)):Bs xs i f=f (xs.take i.toNat):=by
 unfold Bs
 rw[if_pos h0,if_pos h1]
theorem SQ {α β:Type} {xs:List α} {i:Int} {f:List α→Option β} (h0:0≤i) (h1:i≤(xs.length:Int)):S4 xs i f=f (xs.drop i.toNat):=by
 unfold S4
 rw[if_pos h0,if_pos h1]
theorem Bk {x:List Int} (h:x.length≤maxLen ∧ ∀ b∈x,vK (.int .u8) b):we x=some ((true,()),()):=by
 rw[Bh,FR,Option.bind_some]
 dsimp only
 by_cases hb:1048576 < (x.length:Int)
 ·rw[aI hb]
 ·rw[aE hb]
  obtain⟨⟨⟨s,l,u⟩,v⟩,hz,hs,hl⟩:=Ak (EC h hb)
  rw[hz,Option.bind_some]
  dsimp only at hs hl ⊢
  have hs1:=hs.1
  have hl1:=hl.1
  have m1:=l7 (s:=s) (L:=l) hs.sz (by omega) (by omega) hl.sz
  have m2:=F1 (s:=s) (L:=l) hs.sz (by omega) (by omega) hl.sz
  have hn:=SM (s:=s) hl.sz
  have c1:=jZ (xs:=(q5 s l).1) (ys:=(q5 s l).1) (by omega)
  simp only[m1,m2,Option.bind_some,c1,beq_self_eq_true,decide_true,Bool.not_true,Bool.false_eq_true,if_false,if_true]
  cases hk:(q5 s l).2 with
  | false=>rfl
  | true =>
   simp only[Bool.not_true,Bool.false_eq_true,if_false]
   obtain⟨h1,h2,h3⟩:=SO hk
   rw[wr (n:=(l.length:Int)+1) (by omega) (by omega),Rq (by omega)]
   have g0:0≤Int.tmod (x.length:Int) ((l.length:Int)+1):=Int.tmod_nonneg _ (by omega)
   have g1:Int.tmod (x.length:Int) ((l.length:Int)+1) < (l.length:Int)+1:=Int.tmod_lt_of_pos _ (by omega)
   generalize Int.tmod (x.length:Int) ((l.length:Int)+1)=k at g0 g1 ⊢
   rw[SP g0 (by omega)]
   have hp:iA s (l.take k.toNat++l.drop k.toNat)=some (q5 s l).1:=by rw[List.take_append_drop]; exact h3
   rw[Mb] at hp
   cases e1:iA s (l.take k.toNat) with
   | none=>rw[e1] at hp; cases hp
   | some t =>
    rw[e1,Option.bind_some] at hp
    have z1 : ∀ e∈l.take k.toNat,e.2.2.1.size≤9223372036854775807:=fun e he=>hl.sz e (List.mem_of_mem_take he)
    have z2 : ∀ e∈l.drop k.toNat,e.2.2.1.size≤9223372036854775807:=fun e he=>hl.sz e (List.mem_of_mem_drop he)
    have ht:=Kn z1 h1 e1
    have l1:(l.take k.toNat).length≤8:=by rw[List.length_take]; omega
    have l2:(l.drop k.toNat).length≤8:=by rw[List.length_drop]; omega
    have n1:=l7 (s:=s) (L:=l.take k.toNat) hs.sz (by omega) (by omega) z1
    rw[CT h1 (by omega) e1] at n1
    have tl:=ch ht
    have n2:=l7 (s:=t) (L:=l.drop k.toNat) (NP ht) (by omega) (by omega) z2
    rw[CT ht (by omega) hp] at n2
    rw[n1]
    simp only[Option.bind_some]
    rw[SQ g0 (by omega),n2]
    simp only[Option.bind_some,c1,decide_true,if_true]
theorem Ku {x:List Int} (h:x.length≤maxLen ∧ ∀ b∈x,vK (.int .u8) b):GG x=some ((true,()),()):=by
 rw[Jz,FR,Option.bind_some]
 dsimp only
 by_cases hb:1048576 < (x.length:Int)
 ·rw[aI hb]
 ·rw[aE hb]
  obtain⟨⟨⟨s,e,u⟩,v⟩,hz,hs,hl⟩:=Ks (EC h hb)
  rw[hz,Option.bind_some]
  dsimp only at hs hl ⊢
  have hs1:=hs.1
  have he:e.2.2.1.size≤9223372036854775807:=by omega
  have m1:=qu (s:=s) (e:=e) hs.sz (by omega) he
  have m2:=vp (s:=s) (e:=e) hs.sz (by omega) he
  have m3:=Rh (s:=s) (e:=e) hs.sz (by omega) he
  have hn:=Mf (s:=s) he
  have c1:=jZ (xs:=(e8 s e).1) (ys:=(e8 s e).1) (by omega)
  have hu:(Kr s e).2=(e8 s e).2:=by
   unfold Kr
   cases (e8 s e).2 <;> rfl
  simp only[m1,m2,m3,hu,Option.bind_some,c1,beq_self_eq_true,decide_true,Bool.not_true,Bool.false_eq_true,if_false,if_true]
  cases hk:(e8 s e).2 with
  | false=>rfl
  | true =>
   simp only[Bool.not_true,Bool.false_eq_true,if_false]
   obtain⟨h1,h2,h3⟩:=Ai he hk
   have e1:(Kr s e).1=EM s (e8 s e).1:=by
    unfold Kr
    rw[if_pos hk]
   have un:=T6 h1 h2
   have hu2:(EM s (e8 s e).1).length≤360:=by
    have:=Ka h1 h2
    unfold EM
    rw[List.length_append,List.length_map,List.length_map]
    have a1:((nO s (e8 s e).1).filter fun c=>decide (c.2.1=eS)).length+((nO s (e8 s e).1).filter fun c => !decide (c.2.1=eS)).length=(nO s (e8 s e).1).length:=by
     induction (nO s (e8 s e).1) with
     | nil=>rfl
     | cons c l ih =>
      by_cases q:c.2.1=eS
      ·simp[q]; omega
      ·simp[q]; omega
    omega
   have hux : ∀ d∈EM s (e8 s e).1,d.2.2.1.size≤9223372036854775807:=by
    intro d hd
    unfold EM at hd
    rcases List.mem_append.1 hd with hd | hd
    ·obtain⟨c,_,rfl⟩:=List.mem_map.1 hd
     show(eS).size≤_
     decide
    ·obtain⟨c,hc,rfl⟩:=List.mem_map.1 hd
     have k:=(A1.1 (List.mem_filter.1 hc).1)
     show c.2.1.size≤_
     rw[k.1]
     exact Nat.le_trans (Nz h1 c.1) (by decide)
   have tl:=ch h2
   have sl:=ch h1
   have n1:=l7 (s:=(e8 s e).1) (L:=EM s (e8 s e).1) (NP h2) (by omega) (by omega) hux
   rw[CT h2 hu2 un] at n1
   have c2:=jZ (xs:=s) (ys:=s) (by omega)
   rw[e1,n1]
   simp only[Option.bind_some,c2,decide_true,if_true]
   rw[mE (NP h2) (by omega),h2]
   rfl
end Go.Proofs.YtddiiceaindlhaaGreatDoor.Abs
