/- FnCommitted says true. -/
import Derived.Test.YtfffplonjaigkaaGreatDoorZM10
import Derived.Test.YtfffplonjaigkaaGreatDoorZPLLca
set_option linter.unusedVariables false
set_option linter.unusedSimpArgs false
set_option linter.unusedSectionVars false
open List renaming length_append→S5,length_singleton→S3,mem_append→W1,mem_singleton→U4
open Option renaming bind_some→S1
open _root_ renaming decide_eq_true→U2,if_neg→S4,if_pos→S6
namespace Go.Proofs.YtfffplonjaigkaaGreatDoor.Abs
open Go
section
variable {c:List Int} (hc:zp c)
include hc
theorem vF : ∀(n:Nat) {s:aE} {out:List ac},n≤1000→Rd c s→Dj out→Ok (fun z=>oo z.1.1∧Rd c z.2.1) (gi (n:Int) s out)
 | 0,s,out,_,h,ho=>by
  rw[ob,ax (by decide)]
  refine HC hc h (by decide) fun z hz=>Ok.ite (fun _ => ?_) fun _=>Ok.one ⟨ho.up,hz⟩
  refine yD hc hz fun y _ hy=>JI hc hy fun x hx hz' => ?_
  have hl:=ho.1
  refine Ok.app (by simp only[S3]; omega) (Ok.one ⟨⟨by simp only[S5,S3]; omega,fun d hd => ?_⟩,hz'⟩)
  rcases W1.1 hd with hd | hd
  ·exact ho.2 d hd
  ·rw[U4.1 hd]
   exact hx
 | n+1,s,out,hn,h,ho=>by
  have hw:IntKind.i64.wrap (((n+1:Nat):Int) - 1)=(n:Int):=by rw[wr (by omega) (by omega)]; omega
  rw[ob,aC (by omega),hw]
  refine yD hc h fun y _ hy=>JI hc hy fun x hx hz=>Dk ho.up hx fun w hw=>Ok.ite (fun _ => ?_) fun _ => ?_
  ·exact vF n (by omega) hz hw
  ·exact vF n (by omega) hz ho
theorem NI {n:Nat} {s:aE} (hn:n≤900) (h:Rd c s):Ok (fun z=>oo z.1.1∧Rd c z.2.1) (qi (n:Int) s):=by
 rw[Bw,wr (by omega) (by omega)]
 refine eV hc h (by omega) fun z h0 h1 hz => ?_
 rw[show z.1.1=(z.1.1.toNat:Int) by omega]
 exact vF hc _ (by omega) hz ⟨Nat.zero_le _,fun c hc=>by cases hc⟩
end
theorem yJ {c:List Int} (hc:zp c):Ok (fun z=>q7 z.1.1∧oo z.1.2.2.1) (mX c):=by
 rw[yE,Kw,S1]
 refine Ok.bnd (Rs hc (by decide) (Int.le_refl _) (nn _)) fun z hz=>eV hc hz.2 (by decide) fun y y0 y1 hy=>Ok.inbL ⟨#[]⟩ y0 y1 (by decide) (by decide) (by decide) fun hn=>Ok.bnd (NI hc (n:=5) (by decide) hy) fun w hw=>Ok.one ⟨hz.1,hw.1⟩
section
variable {d:aO} (h:bS d) {n:ByteArray} (hn:dB d.2.2.1 n=true) {s:List ac} (he:bS (cI d n [bb d.2.2.1 n] s))
include h hn he
theorem HN : ∀(ys pre:List ag),d.2.1=pre++ys→gF (pre.length:Int) d.1 (cI d n [bb d.2.2.1 n] s).1 d.2.1 d.2.2.1 (cI d n [bb d.2.2.1 n] s).2.1 (cI d n [bb d.2.2.1 n] s).2.2.1=some ((true,()),())
 | [],pre,k=>by rw[mn,ax (bQ k)]
 | y :: ys,pre,k=>by
  have hv:=h.vl
  have hy:y∈d.2.1:=by rw[k]; simp
  have hl:=dc (h.sh y hy)
  obtain⟨k1,k2⟩:=NH h hn he hy
  rw[mn,aC (bq k),bk k,show(((cI d n [bb d.2.2.1 n] s).1,(cI d n [bb d.2.2.1 n] s).2.1,(cI d n [bb d.2.2.1 n] s).2.2.1,()):aO)=cI d n [bb d.2.2.1 n] s from rfl,zr he,S1]
  dsimp only
  rw[k1,k2,S4 (by decide),bk k,wi (by omega),S1]
  dsimp only
  rw[U2 rfl,S4 (by decide),aL k (by omega)]
  exact HN ys _ (aM k)
theorem xV : ∀(ys pre:List ah),d.2.2.1=pre++ys→fi n (pre.length:Int) d.1 (cI d n [bb d.2.2.1 n] s).1 d.2.1 d.2.2.1 (cI d n [bb d.2.2.1 n] s).2.1 (cI d n [bb d.2.2.1 n] s).2.2.1=some ((true,()),())
 | [],pre,k=>by
  rw[ml,ax (bQ k)]
  exact HN h hn he d.2.1 [] rfl
 | y :: ys,pre,k=>by
  have hv:=h.bl
  have hy:y∈d.2.2.1:=by rw[k]; simp
  rw[ml,aC (bq k),bk k,j0]
  by_cases e:y.1=n
  ·rw[U2 e,S4 (by decide),aL k (by omega)]
   exact xV ys _ (aM k)
  ·rw[decide_eq_false e,S6 (by decide),bk k,show(((cI d n [bb d.2.2.1 n] s).1,(cI d n [bb d.2.2.1 n] s).2.1,(cI d n [bb d.2.2.1 n] s).2.2.1,()):aO)=cI d n [bb d.2.2.1 n] s from rfl,vD he,S1,bk k,NG h hn he hy e,S4 (by simp),aL k (by omega)]
   exact xV ys _ (aM k)
end
theorem Cj {x:List Int} (hx:x.length≤maxLen ∧ ∀ b∈x,wJ (.int .u8) b):xg x=some ((true,()),()):=by
 rw[BJ,Qf,S1]
 dsimp only
 by_cases hb:1048576 < (x.length:Int)
 ·rw[aC hb]
 ·rw[ax hb]
  obtain⟨⟨⟨d,n,s,u⟩,v⟩,hz,hd,hs⟩:=yJ (Rj hx hb)
  rw[hz,S1]
  dsimp only at hd hs ⊢
  have hsl:=hs.1
  rw[E9 hd n (by omega) hs.sz,S1,Dn hd n (by omega) hs.sz,S1]
  dsimp only
  rw[S4 (by simp),S4 (by simp)]
  unfold q6
  by_cases hk:gG d=true
  ·rw[S6 hk]
   have h:=co.1 hk
   by_cases h1:dB d.2.2.1 n=true
   ·rw[S6 h1]
    by_cases h2:bi s=true
    ·rw[S6 h2]
     by_cases h3:nf d=true
     ·rw[S6 h3]
      simp[sG hd]
     ·rw[S4 h3]
      have he:bS (cI d n [bb d.2.2.1 n] s):=h.grown (by simpa using h3) (by simp) (fun u hu=>by rw[U4.1 hu]; exact(h.head h1).1) (List.pairwise_singleton _ _) h2
      dsimp only
      have hid:=JR h h1 he
      have hhas:=fQ.2 hid
      have hsh:dG (cI d n [bb d.2.2.1 n] s).2.1 d.1=s:=yA he.vr (JO h h1 he)
      have hab:HM (cI d n [bb d.2.2.1 n] s) d.1=cF d.2.1 (bb d.2.2.1 n)++[d.1]:=by
       unfold HM
       rw[S6 ⟨co.2 he,hhas⟩,Ql h h1 he]
      have ha0:=h.head h1
      have hab0:HM d (bb d.2.2.1 n)=cF d.2.1 (bb d.2.2.1 n):=S6 ⟨hk,fQ.2 ha0.1⟩
      have hin:bb d.2.2.1 n∈cF d.2.1 (bb d.2.2.1 n):=(Aw h ha0.1 _).2 (pz h ha0.1).2.2.1
      have hle:=q8 h (bb d.2.2.1 n)
      have hw:IntKind.i64.wrap (((cF d.2.1 (bb d.2.2.1 n)).length:Int)+1)=((cF d.2.1 (bb d.2.2.1 n)++[d.1]).length:Int):=by
       rw[wr (by omega) (by omega),S5]
       rfl
      rw[S4 (by decide),S4 (by decide),zr he,S1]
      dsimp only
      rw[hhas,hsh,S4 (by decide),wi (by omega),S1]
      dsimp only
      rw[U2 rfl,S4 (by decide),vD he,S1]
      dsimp only
      rw[O8 h h1 he,S4 (by simp),lF he.szd,S1,co.2 he]
      dsimp only
      rw[S4 (by decide),EF he.szd,S1,vD h,S1]
      dsimp only
      rw[hab,Ly (by simp only[S5,S3]; omega),S1]
      dsimp only
      rw[U2 (W1.2 (.inl hin)),S4 (by decide),S1,S1]
      dsimp only
      rw[EF hd,S1,hab0]
      dsimp only
      rw[hw,S4 (by simp)]
      exact xV h h1 he d.2.2.1 [] rfl
    ·rw[S4 h2]
     simp[sG hd]
   ·rw[S4 h1]
    simp[sG hd]
  ·rw[S4 hk]
   simp
end Go.Proofs.YtfffplonjaigkaaGreatDoor.Abs
