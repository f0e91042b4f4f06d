/- FnExactApplied, FnExactUndo and FnExactAllApplied say true. -/
import Derived.Test.YtddiiceaindlhaaGreatDoorZP7
import Derived.Test.YtddiiceaindlhaaGreatDoorZPHC
set_option linter.unusedVariables false
set_option linter.unusedSimpArgs false
set_option linter.unusedSectionVars false
namespace Go.Proofs.YtddiiceaindlhaaGreatDoor.Abs
open Go
theorem Gu {s:List ab} {n:Nat} (h:s.length+l5 ir s≤n) : ∀ c∈s,c.2.1.size≤n:=by
 intro x hx
 have:=L4 (f:=ir) hx
 have e:x.2.1.size≤ir x:=by unfold ir; omega
 omega
theorem SR {s:List cF} {n:Nat} (h:s.length+l5 iJ s≤n) : ∀ c∈s,c.2.2.1.size≤n:=by
 intro x hx
 have:=L4 (f:=iJ) hx
 have e:x.2.2.1.size≤iJ x:=by unfold iJ; omega
 omega
theorem SS {s:List ab} {e:cF} (hx:e.2.2.1.size≤9223372036854775807):(iE s e).1.length≤120:=by
 cases hb:(iE s e).2 with
 | true=>exact(cR (Fe hx hb).2.1).1
 | false =>
  unfold iE at hb ⊢
  split
  ·rename_i k
   rw[if_pos k] at hb
   rw[Oa hb]
   exact Nat.zero_le _
  ·exact Nat.zero_le _
theorem ST {s:List ab} {e:cF} (hx:e.2.2.1.size≤9223372036854775807):(AI s e).1.length≤480:=by
 unfold AI
 split
 ·rename_i hb
  obtain⟨h1,h2,_⟩:=Fe hx hb
  have:=Df h1 h2
  unfold TR
  rw[List.length_append,List.length_map,List.length_map]
  have a1:=List.length_filter_le (fun c:aH=>decide (c.2.1=eS)) (pd s (iE s e).1)
  have a2:=List.length_filter_le (fun c:aH => !decide (c.2.1=eS)) (pd s (iE s e).1)
  omega
 ·exact Nat.zero_le _
theorem SU {s:List ab} {L:List cF} (hx : ∀ e∈L,e.2.2.1.size≤9223372036854775807):(AH s L).1.length≤120:=by
 unfold AH
 split
 ·rename_i k
  cases h:AC s L with
  | none=>exact Nat.zero_le _
  | some t=>exact(cR (Qf hx k.1 h)).1
 ·exact Nat.zero_le _
theorem AN {s:List ab} {e:cF} (h1:s.length≤maxLen ∧ ∀ x∈s,oe ac x) (h2:oe ak e):uA s e=some ((true,()),()):=by
 rw[zS,vK h1 (by decide) (by decide),Option.bind_some]
 dsimp only
 by_cases a1:cD 1048576 (s.length+l5 ir s) < 0
 ·rw[aD a1]
 ·obtain⟨b1,b2⟩:=wU a1
  rw[av a1,yz h2 (by omega) (by omega),Option.bind_some]
  dsimp only
  by_cases a2:cD (cD 1048576 (s.length+l5 ir s)) (iJ e) < 0
  ·rw[aD a2]
  ·obtain⟨b3,b4⟩:=wU a2
   have c1:s.length+l5 ir s≤1048576:=by omega
   have c2:e.2.2.1.size≤9223372036854775807:=by
    have:e.2.2.1.size≤iJ e:=by unfold iJ; omega
    omega
   have d1:=Gu c1
   have f1:=Cr (s:=s) (e:=e) (fun c hc=>Nat.le_trans (d1 c hc) (by decide)) (by omega) c2
   have f2:=vJ (s:=s) (e:=e) (fun c hc=>Nat.le_trans (d1 c hc) (by decide)) (by omega) c2
   have hp:=SS (s:=s) c2
   obtain⟨m1,_,g1,_⟩:=mF (s:=s) (k:=1) (by decide) (by omega) (by omega)
   obtain⟨m3,_,g3,g4⟩:=mF (s:=(iE s e).1) (k:=1) (by decide) (by omega) (by omega)
   have n1:decide (1+3*(s.length:Int) < 0)=false:=decide_eq_false (by omega)
   have n2:decide (1+3*((iE s e).1.length:Int) < 0)=false:=decide_eq_false (by omega)
   have p1:=mH (xs:=s) (by omega)
   have p3:=mH (xs:=(iE s e).1) (by omega)
   rw[av a2]
   simp only[Option.bind_some,vL c1,yA,f1,f2,p1,p3,g1,g3,g4,n1,n2,Bool.not_true,Bool.false_eq_true,if_false,beq_self_eq_true,bne_self_eq_false]
theorem Ff {s:List ab} {e:cF} (h1:s.length≤maxLen ∧ ∀ x∈s,oe ac x) (h2:oe ak e):zN s e=some ((true,()),()):=by
 rw[Et,vK h1 (by decide) (by decide),Option.bind_some]
 dsimp only
 by_cases a1:cD 1048576 (s.length+l5 ir s) < 0
 ·rw[aD a1]
 ·obtain⟨b1,b2⟩:=wU a1
  rw[av a1,yz h2 (by omega) (by omega),Option.bind_some]
  dsimp only
  by_cases a2:cD (cD 1048576 (s.length+l5 ir s)) (iJ e) < 0
  ·rw[aD a2]
  ·obtain⟨b3,b4⟩:=wU a2
   have c1:s.length+l5 ir s≤1048576:=by omega
   have c2:e.2.2.1.size≤9223372036854775807:=by
    have:e.2.2.1.size≤iJ e:=by unfold iJ; omega
    omega
   have d1:=Gu c1
   have f1:=RB (s:=s) (e:=e) (fun c hc=>Nat.le_trans (d1 c hc) (by decide)) (by omega) c2
   have f2:=RC (s:=s) (e:=e) (fun c hc=>Nat.le_trans (d1 c hc) (by decide)) (by omega) c2
   have hp:=ST (s:=s) c2
   obtain⟨m1,_,g1,_⟩:=mF (s:=s) (k:=1) (by decide) (by omega) (by omega)
   obtain⟨m3,_,g3,g4⟩:=Cs (s:=(AI s e).1) (k:=1) (by decide) (by omega) (by omega)
   have n1:decide (1+3*(s.length:Int) < 0)=false:=decide_eq_false (by omega)
   have n2:decide (1+10*((AI s e).1.length:Int) < 0)=false:=decide_eq_false (by omega)
   have p1:=mH (xs:=s) (by omega)
   have p3:=Ct (xs:=(AI s e).1) (by omega)
   rw[av a2]
   simp only[Option.bind_some,vL c1,yA,f1,f2,p1,p3,g1,g3,g4,n1,n2,Bool.not_true,Bool.false_eq_true,if_false,beq_self_eq_true,bne_self_eq_false]
theorem xm {s:List ab} {l:List cF} (h1:s.length≤maxLen ∧ ∀ x∈s,oe ac x) (h2:l.length≤maxLen ∧ ∀ x∈l,oe ak x):qM s l=some ((true,()),()):=by
 rw[wJ,vK h1 (by decide) (by decide),Option.bind_some]
 dsimp only
 by_cases a1:cD 1048576 (s.length+l5 ir s) < 0
 ·rw[aD a1]
 ·obtain⟨b1,b2⟩:=wU a1
  rw[av a1,Lz h2 (by omega) (by omega),Option.bind_some]
  dsimp only
  by_cases a2:cD (cD 1048576 (s.length+l5 ir s)) (l.length+l5 iJ l) < 0
  ·rw[aD a2]
  ·obtain⟨b3,b4⟩:=wU a2
   have c1:s.length+l5 ir s≤1048576:=by omega
   have c2:l.length+l5 iJ l≤1048576:=by omega
   have d1:=Gu c1
   have d2:=fun e he=>Nat.le_trans (SR c2 e he) (by decide:1048576≤9223372036854775807)
   have f1:=Gs (s:=s) (L:=l) (fun c hc=>Nat.le_trans (d1 c hc) (by decide)) (by omega) (by omega) d2
   have f2:=Gt (s:=s) (L:=l) (fun c hc=>Nat.le_trans (d1 c hc) (by decide)) (by omega) (by omega) d2
   have hp:=SU (s:=s) d2
   obtain⟨m1,_,g1,_⟩:=mF (s:=s) (k:=1) (by decide) (by omega) (by omega)
   obtain⟨m2,_,g2,_⟩:=Cs (s:=l) (k:=1+3*s.length) (by omega) (by omega) (by omega)
   obtain⟨m3,_,g3,g4⟩:=mF (s:=(AH s l).1) (k:=1) (by decide) (by omega) (by omega)
   have n1:decide (1+3*(s.length:Int)+10*(l.length:Int) < 0)=false:=decide_eq_false (by omega)
   have n2:decide (1+3*((AH s l).1.length:Int) < 0)=false:=decide_eq_false (by omega)
   have p1:=mH (xs:=s) (by omega)
   have p2:=Ct (xs:=l) (by omega)
   have p3:=mH (xs:=(AH s l).1) (by omega)
   rw[av a2]
   simp only[Option.bind_some,vL c1,LA c2,f1,f2,p1,p2,p3,g1,g2,g3,g4,n1,n2,Bool.not_true,Bool.false_eq_true,if_false,beq_self_eq_true,bne_self_eq_false]
end Go.Proofs.YtddiiceaindlhaaGreatDoor.Abs
