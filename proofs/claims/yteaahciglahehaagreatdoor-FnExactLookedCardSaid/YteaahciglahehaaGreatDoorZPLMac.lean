/- FnExactRunMacro and FnExactLooked say true. -/
import Derived.Test.YteaahciglahehaaGreatDoorZM12
import Derived.Test.YteaahciglahehaaGreatDoorZPHC
set_option linter.unusedVariables false
set_option linter.unusedSimpArgs false
set_option linter.unusedSectionVars false
namespace Go.Proofs.YteaahciglahehaaGreatDoor.Abs
open Go
theorem Pi {s:List ae} {n:Nat} (h:s.length+oj lM s≤n) : ∀ c∈s,c.2.1.size≤n:=by
 intro x hx
 have:=Ra (f:=lM) hx
 have e:x.2.1.size≤lM x:=by unfold lM; omega
 omega
theorem Pj {l:List aV} {n:Nat} (h:l.length+oj oQ l≤n) : ∀ c∈l,c.2.2.1.size≤n:=by
 intro x hx
 have:=Ra (f:=oQ) hx
 have e:x.2.2.1.size≤oQ x:=by unfold oQ; omega
 omega
theorem Pk {m:List aV} (hm:jC m=true) : ∀(n:Nat) (i:Int) (st:nE),nM n st→0≤i→nM 0 (eF m n i st).2.2
 | 0,i,st,hI,h0=>by
  unfold eF
  split
  ·exact hI
  ·exact hI
 | n+1,i,st,hI,h0=>by
  have down : ∀ {k:Nat} {st:nE},nM k st→nM 0 st:=fun h=>⟨h.sh,by have:=h.lk; omega,by have:=h.se; omega⟩
  by_cases hi:i < (m.length:Int)
  ·obtain⟨q1,q2,q3⟩:=DN hm hI h0 hi
   by_cases hc:(bW (m.getD i.toNat aG.dflt) i st).1=0
   ·rw[Zf hi hc]
    exact Pk hm n _ _ q1 q2
   ·rw[Zg hi hc]
    exact down q1
  ·rw[X1 hi]
   exact down hI
theorem JH {s:List ae} {m:List aV} {fuel:Int} (h:rz s m fuel=0):nM 0 (mK s m fuel).2.2:=by
 obtain⟨hs,hm,hf0,hf1⟩:=wM h
 exact Pk hm fuel.toNat 0 (s,[],[]) (nM.first hs (by omega)) (Int.le_refl _)
theorem Zh (s:List ae) (m:List aV) (fuel:Int):(Im s m fuel).1.length≤120:=by
 unfold Im
 by_cases h:rz s m fuel=0
 ·rw[if_pos h]
  show(if(mK s m fuel).1=0 then(mK s m fuel).2.2.1 else s).length≤120
  split
  ·exact bn (JH h).sh
  ·exact bn (wM h).1
 ·rw[if_neg h]
  exact Nat.zero_le _
theorem Zi (s:List ae) (m:List aV) (fuel:Int):(wL s m fuel).1.length≤10000000∧(wL s m fuel).2.1.length≤10000000:=by
 unfold wL
 by_cases h:rz s m fuel=0
 ·rw[if_pos h]
  have h1:=(JH h).lk
  have h2:=(JH h).se
  exact⟨by show(mK s m fuel).2.2.2.1.length≤_; omega,by show(mK s m fuel).2.2.2.2.length≤_; omega⟩
 ·rw[if_neg h]
  exact⟨Nat.zero_le _,Nat.zero_le _⟩
theorem Cq {s:List ae} {m:List aV} {fuel:Int} (h1:s.length≤maxLen ∧ ∀ x∈s,s5 aj x) (h2:m.length≤maxLen ∧ ∀ x∈m,s5 aG x):vL s m fuel=some ((true,()),()):=by
 rw[Cp,Fm h1 (by decide) (by decide),Option.bind_some]
 dsimp only
 by_cases a1:cO 1048576 (s.length+oj lM s) < 0
 ·rw[aB a1]
 ·obtain⟨b1,b2⟩:=Hm a1
  rw[aA a1,Fp h2 (by omega) (by omega),Option.bind_some]
  dsimp only
  by_cases a2:cO (cO 1048576 (s.length+oj lM s)) (m.length+oj oQ m) < 0
  ·rw[aB a2]
  ·obtain⟨b3,b4⟩:=Hm a2
   have c1:s.length+oj lM s≤1048576:=by omega
   have c2:m.length+oj oQ m≤1048576:=by omega
   have d1:=Pi c1
   have d2:=Pj c2
   have f1:=Pf (s:=s) (m:=m) (fuel:=fuel) (fun c hc=>Nat.le_trans (d1 c hc) (by decide)) (by omega) (by omega) (fun c hc=>Nat.le_trans (d2 c hc) (by decide))
   have f2:=Pg (s:=s) (m:=m) (fuel:=fuel) (fun c hc=>Nat.le_trans (d1 c hc) (by decide)) (by omega) (by omega) (fun c hc=>Nat.le_trans (d2 c hc) (by decide))
   have hp:=Zh s m fuel
   obtain⟨m1,_,g1,_⟩:=yP (s:=s) (k:=1) (by decide) (by omega) (by omega)
   obtain⟨m2,_,g2⟩:=Fl (s:=m) (k:=1+3*s.length) (by omega) (by omega) (by omega)
   obtain⟨m3,_,g3,g4⟩:=yP (s:=(Im s m fuel).1) (k:=1) (by decide) (by omega) (by omega)
   have n1:decide (1+3*(s.length:Int)+5*(m.length:Int) < 0)=false:=decide_eq_false (by omega)
   have n2:decide (1+3*((Im s m fuel).1.length:Int) < 0)=false:=decide_eq_false (by omega)
   have p1:=yQ (xs:=s) (by omega)
   have p2:=Fs (xs:=m) (by omega)
   have p3:=yQ (xs:=(Im s m fuel).1) (by omega)
   rw[aA a2]
   simp only[Option.bind_some,Fo c1,Fq c2,f1,f2,p1,p2,p3,g1,g2,g3,g4,n1,n2,Bool.not_true,Bool.false_eq_true,if_false,beq_self_eq_true,bne_self_eq_false]
theorem EC {s:List ae} {m:List aV} {fuel:Int} (h1:s.length≤maxLen ∧ ∀ x∈s,s5 aj x) (h2:m.length≤maxLen ∧ ∀ x∈m,s5 aG x):zJ s m fuel=some ((true,()),()):=by
 rw[EA,Fm h1 (by decide) (by decide),Option.bind_some]
 dsimp only
 by_cases a1:cO 1048576 (s.length+oj lM s) < 0
 ·rw[aB a1]
 ·obtain⟨b1,b2⟩:=Hm a1
  rw[aA a1,Fp h2 (by omega) (by omega),Option.bind_some]
  dsimp only
  by_cases a2:cO (cO 1048576 (s.length+oj lM s)) (m.length+oj oQ m) < 0
  ·rw[aB a2]
  ·obtain⟨b3,b4⟩:=Hm a2
   have c1:s.length+oj lM s≤1048576:=by omega
   have c2:m.length+oj oQ m≤1048576:=by omega
   have d1:=Pi c1
   have d2:=Pj c2
   have f1:=TV (s:=s) (m:=m) (fuel:=fuel) (fun c hc=>Nat.le_trans (d1 c hc) (by decide)) (by omega) (by omega) (fun c hc=>Nat.le_trans (d2 c hc) (by decide))
   have f2:=TW (s:=s) (m:=m) (fuel:=fuel) (fun c hc=>Nat.le_trans (d1 c hc) (by decide)) (by omega) (by omega) (fun c hc=>Nat.le_trans (d2 c hc) (by decide))
   have hp:=Zi s m fuel
   obtain⟨m1,_,g1,_⟩:=yP (s:=s) (k:=1) (by decide) (by omega) (by omega)
   obtain⟨m2,_,g2⟩:=Fl (s:=m) (k:=1+3*s.length) (by omega) (by omega) (by omega)
   obtain⟨m3,_,g3,g4⟩:=Qp (s:=(wL s m fuel).1) (k:=1) (by decide) (by omega) (by omega)
   obtain⟨m4,_,g5,g6⟩:=TX (s:=(wL s m fuel).2.1) (k:=1+4*(wL s m fuel).1.length) (by omega) (by omega) (by omega)
   have n1:decide (1+3*(s.length:Int)+5*(m.length:Int) < 0)=false:=decide_eq_false (by omega)
   have n2:decide (1+4*((wL s m fuel).1.length:Int) < 0)=false:=decide_eq_false (by omega)
   have n3:decide (1+4*((wL s m fuel).1.length:Int)+2*((wL s m fuel).2.1.length:Int) < 0)=false:=decide_eq_false (by omega)
   have p1:=yQ (xs:=s) (by omega)
   have p2:=Fs (xs:=m) (by omega)
   have p3:=Qq (xs:=(wL s m fuel).1) (by omega)
   have p4:=T5 (xs:=(wL s m fuel).2.1) (by omega)
   rw[aA a2]
   simp only[Option.bind_some,Fo c1,Fq c2,f1,f2,p1,p2,p3,p4,g1,g2,g3,g4,g5,g6,n1,n2,n3,Bool.not_true,Bool.false_eq_true,if_false,beq_self_eq_true,bne_self_eq_false]
end Go.Proofs.YteaahciglahehaaGreatDoor.Abs
