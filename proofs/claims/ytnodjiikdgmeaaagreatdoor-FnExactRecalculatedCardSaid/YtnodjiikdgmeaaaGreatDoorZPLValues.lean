/- FnExactValuesOf and FnExactRecalculated say true. -/
import Derived.Test.YtnodjiikdgmeaaaGreatDoorZM11
import Derived.Test.YtnodjiikdgmeaaaGreatDoorZPHC
set_option linter.unusedVariables false
set_option linter.unusedSimpArgs false
set_option linter.unusedSectionVars false
namespace Go.Proofs.YtnodjiikdgmeaaaGreatDoor.Abs
open Go
theorem L7 {s:List aj} {n:Nat} (h:s.length+nZ kV s≤n) : ∀ c∈s,c.2.1.size≤n:=by
 intro x hx
 have:=NO (f:=kV) hx
 have e:x.2.1.size≤kV x:=by unfold kV; omega
 omega
theorem Ud {l:List ac} {n:Nat} (h:l.length+nZ eX l≤n) : ∀ c∈l,c.2.1.2.2.1.size≤n:=by
 intro x hx
 have:=NO (f:=eX) hx
 have e:x.2.1.2.2.1.size≤eX x:=by unfold eX pF; omega
 omega
theorem Ue (s:List aj):(zv s).length≤120:=by
 unfold zv
 split
 ·rename_i h
  rw[gc]
  exact bd h
 ·exact Nat.zero_le _
theorem Uf (s:List aj) (old:List ac) (ch:List al):(zw s old ch).length≤120:=by
 unfold zw
 split
 ·rename_i h
  rw[gc]
  exact bd h.1
 ·exact Nat.zero_le _
theorem Ae {s:List aj} (h1:s.length≤maxLen ∧ ∀ x∈s,oF ap x):tO s=some ((true,()),()):=by
 rw[zX,C3 h1 (by decide) (by decide),Option.bind_some]
 dsimp only
 by_cases a1:b9 1048576 (s.length+nZ kV s) < 0
 ·rw[az a1]
 ·obtain⟨b1,b2⟩:=E2 a1
  have c1:s.length+nZ kV s≤1048576:=by omega
  have d1:=L7 c1
  have f1:=L5 (s:=s) (fun c hc=>Nat.le_trans (d1 c hc) (by decide)) (by omega)
  have f2:=L6 (s:=s) (fun c hc=>Nat.le_trans (d1 c hc) (by decide)) (by omega)
  have hp:=Ue s
  obtain⟨m1,_,g1⟩:=BB (s:=s) (k:=1) (by decide) (by omega) (by omega)
  obtain⟨m3,_,g3,g4⟩:=zx (s:=zv s) (k:=1) (by decide) (by omega) (by omega)
  have n1:decide (1+3*(s.length:Int) < 0)=false:=decide_eq_false (by omega)
  have n2:decide (1+5*((zv s).length:Int) < 0)=false:=decide_eq_false (by omega)
  have p1:=C5 (xs:=s) (by omega)
  have p3:=nL (xs:=zv s) (by omega)
  rw[aw a1]
  simp only[Option.bind_some,C4 c1,f1,f2,p1,p3,g1,g3,g4,n1,n2,Bool.not_true,Bool.false_eq_true,if_false,beq_self_eq_true,bne_self_eq_false]
theorem uD {s:List aj} {old:List ac} {ch:List al} (h1:s.length≤maxLen ∧ ∀ x∈s,oF ap x) (h2:old.length≤maxLen ∧ ∀ x∈old,oF ae x) (h3:ch.length≤maxLen ∧ ∀ x∈ch,oF ao x):o0 s old ch=some ((true,()),()):=by
 rw[uC,C3 h1 (by decide) (by decide),Option.bind_some]
 dsimp only
 by_cases a1:b9 1048576 (s.length+nZ kV s) < 0
 ·rw[az a1]
 ·obtain⟨b1,b2⟩:=E2 a1
  rw[aw a1,D5 h2 (by omega) (by omega),Option.bind_some]
  dsimp only
  by_cases a2:b9 (b9 1048576 (s.length+nZ kV s)) (old.length+nZ eX old) < 0
  ·rw[az a2]
  ·obtain⟨b3,b4⟩:=E2 a2
   rw[aw a2,Qi h3 (by omega) (by omega),Option.bind_some]
   dsimp only
   by_cases a3:b9 (b9 (b9 1048576 (s.length+nZ kV s)) (old.length+nZ eX old)) ch.length < 0
   ·rw[az a3]
   ·obtain⟨b5,b6⟩:=E2 a3
    have c1:s.length+nZ kV s≤1048576:=by omega
    have c2:old.length+nZ eX old≤1048576:=by omega
    have c3:ch.length≤1048576:=by omega
    have d1:=L7 c1
    have d2:=Ud c2
    have f1:=D4 (s:=s) (old:=old) (ch:=ch) (fun c hc=>Nat.le_trans (d1 c hc) (by decide)) (by omega) (fun c hc=>Nat.le_trans (d2 c hc) (by decide)) (by omega) (by omega)
    have f2:=D3 (s:=s) (old:=old) (ch:=ch) (fun c hc=>Nat.le_trans (d1 c hc) (by decide)) (by omega) (fun c hc=>Nat.le_trans (d2 c hc) (by decide)) (by omega) (by omega)
    have hp:=Uf s old ch
    obtain⟨m1,_,g1⟩:=BB (s:=s) (k:=1) (by decide) (by omega) (by omega)
    obtain⟨m2,_,g2,_⟩:=zx (s:=old) (k:=1+3*s.length) (by omega) (by omega) (by omega)
    obtain⟨m4,_,g5⟩:=M2 (s:=ch) (k:=1+3*s.length+5*old.length) (by omega) (by omega) (by omega)
    obtain⟨m3,_,g3,g4⟩:=zx (s:=zw s old ch) (k:=1) (by decide) (by omega) (by omega)
    have n1:decide (1+3*(s.length:Int)+5*(old.length:Int)+2*(ch.length:Int) < 0)=false:=decide_eq_false (by omega)
    have n2:decide (1+5*((zw s old ch).length:Int) < 0)=false:=decide_eq_false (by omega)
    have p1:=C5 (xs:=s) (by omega)
    have p2:=nL (xs:=old) (by omega)
    have p4:=Qk (xs:=ch) (by omega)
    have p3:=nL (xs:=zw s old ch) (by omega)
    rw[aw a3]
    simp only[Option.bind_some,C4 c1,D6 c2,Qj c3,f1,f2,p1,p2,p3,p4,g1,g2,g3,g4,g5,n1,n2,Bool.not_true,Bool.false_eq_true,if_false,beq_self_eq_true,bne_self_eq_false]
end Go.Proofs.YtnodjiikdgmeaaaGreatDoor.Abs
