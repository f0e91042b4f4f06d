/- Plain laws: drawn edits; drawn sheets with edits. -/
import Derived.Test.YtddiiceaindlhaaGreatDoorZPT37
import Derived.Test.YtddiiceaindlhaaGreatDoorZP7
set_option linter.unusedVariables false
set_option linter.unusedSimpArgs false
set_option linter.unusedSectionVars false
namespace Go.Proofs.YtddiiceaindlhaaGreatDoor.Abs
open Go
def RG (l:List cD):Prop:=l.length≤8 ∧ ∀ c∈l,c.2.2.1.size≤6401
theorem RG.sz {l:List cD} (h:RG l) : ∀ e∈l,e.2.2.1.size≤9223372036854775807:=fun e he=>Nat.le_trans (h.2 e he) (by decide)
section
variable {c:List Int} (hc:G3 c)
include hc
theorem TO {β:Type} {Q:β→Prop} {a b:Int} {s:aC} {f:(Int×Unit)×aC×Unit→Option β} (h:Rd c s) (hab:0≤a∧a≤b∧b≤1000000) (k : ∀ z,Rd c z.2.1→Ok Q (f z)):Ok Q ((de a b s).bind f):=Ok.bnd (Kc hc h hab) fun z hz=>k z hz
set_option maxHeartbeats 4000000 in
theorem SK {s:aC} (h:Rd c s):Ok (fun z=>z.1.1.2.2.1.size≤6401∧Rd c z.2.1) (oG s):=by
 rw[HS]
 repeat' first
  | refine wJ hc (by assumption) (by decide) fun _ _ _ _ => ?_
  | refine EB hc (by assumption) fun _ _ _ => ?_
  | refine FT hc (by assumption) fun _ _ _ => ?_
  | refine EA hc (by assumption) (by decide) fun _ _ => ?_
  | refine Pq hc (by assumption) fun _ _ => ?_
  | refine TO hc (by assumption) (by decide) fun _ _ => ?_
  | refine Ok.ite (fun _ => ?_) fun _ => ?_
  | refine Ok.one ⟨?_,by assumption⟩
 all_goals (try dsimp only)
 all_goals first | assumption | decide
theorem PW {β:Type} {Q:β→Prop} {s:aC} {f:(cD×Unit)×aC×Unit→Option β} (h:Rd c s) (k : ∀ z,z.1.1.2.2.1.size≤6401→Rd c z.2.1→Ok Q (f z)):Ok Q ((oG s).bind f):=Ok.bnd (SK hc h) fun z hz=>k z hz.1 hz.2
theorem CR {β:Type} {Q:β→Prop} {n:Int} {f:(List ab×Unit)×aC×Unit→Option β} (h0:0≤n) (h1:n≤900) (k : ∀ z,wK z.1.1→Rd c z.2.1→Ok Q (f z)):Ok Q ((sj c).bind fun z1=>(ki n z1.1.1.1 z1.1.1.2.1).bind f):=by
 obtain⟨m,rfl⟩ : ∃ m:Nat,n=(m:Int):=⟨n.toNat,by omega⟩
 rw[DL,Option.bind_some]
 exact Ok.bnd (Pv hc (by omega) (Int.le_refl _) (by show(0:Int)≤(c.length:Int); omega)) fun z hz=>k z hz.1 hz.2
theorem ES:Ok (fun z=>wK z.1.1∧z.1.2.1.2.2.1.size≤6401) (s4 c):=by
 rw[D0]
 exact CR hc (by decide) (by decide) fun z1 s1 r1=>PW hc r1 fun z2 s2 r2=>Ok.one ⟨s1,s2⟩
theorem Ks:Ok (fun z=>wK z.1.1∧z.1.2.1.2.2.1.size≤6401) (zu c):=by
 rw[Jy]
 exact Ok.bnd (ES hc) fun z hz=>Ok.one hz
theorem Aj {t:List ab} (ht:wK t) : ∀(n:Nat) {s:aC} {l:List cD},n+l.length≤8→Rd c s→(∀ e∈l,e.2.2.1.size≤6401)→Ok (fun z=>wK z.1.1∧RG z.1.2.1) (iq (n:Int) s t l)
 | 0,s,l,hn,h,hl=>by
  rw[nH,aE (by decide)]
  exact Ok.one ⟨ht,by show l.length≤8; omega,hl⟩
 | n+1,s,l,hn,h,hl=>by
  have hw:IntKind.i64.wrap (((n+1:Nat):Int) - 1)=(n:Int):=by rw[wr (by omega) (by omega)]; omega
  rw[nH,aI (by omega),hw]
  refine PW hc h fun z s1 r1=>Ok.app (by simp only[List.length_singleton]; omega) (Aj ht n (by simp only[List.length_append,List.length_singleton]; omega) r1 fun e he => ?_)
  rcases List.mem_append.1 he with he | he
  ·exact hl e he
  ·rw[List.mem_singleton.1 he]
   exact s1
theorem Ak:Ok (fun z=>wK z.1.1∧RG z.1.2.1) (oH c):=by
 rw[zz]
 refine CR hc (by decide) (by decide) fun z1 s1 r1=>wJ hc r1 (by decide) fun z2 h0 h1 r2 => ?_
 rw[show z2.1.1=(z2.1.1.toNat:Int) by omega]
 exact Aj hc s1 _ (by simp only[List.length_nil]; omega) r2 (fun e he=>by cases he)
theorem CS:Ok (fun z=>wK z.1.1) (rd c):=by
 rw[Cq]
 exact CR hc (by decide) (by decide) fun z1 s1 r1=>Ok.one s1
theorem SL {i:Int} (h2:0≤i) (h3:i≤(c.length:Int)):Ok (fun z=>ao z.1.1=true∧Rd c z.2.1) (xv c i):=by
 rw[HT]
 refine Ok.bnd (G7 hc h2 h3 (by decide)) fun z hz=>Ok.bnd (ni hc hz.2 (by decide)) fun y hy => ?_
 have h1:=hz.1
 have h2:=hy.1
 rw[wr (by omega) (by omega),wr (by omega) (by omega)]
 refine Ok.one ⟨?_,hy.2⟩
 rw[bA]
 show(1≤1+z.1.1∧1+z.1.1≤52)∧1≤1+y.1.1∧1+y.1.1≤99
 omega
theorem Ri {i:Int} (h2:0≤i) (h3:i≤(c.length:Int)):Ok (fun z=>Rd c z.2.1) (uZ c i):=by
 rw[Fq]
 refine Ok.bnd (SL hc h2 h3) fun z hz=>Ok.bnd (Ez hc hz.2) fun y hy=>Ok.bnd (A4 hc hy.2 (by decide)) fun w hw=>Ok.ite (fun _ => ?_) fun _=>Ok.one hw
 exact Ok.bnd (Kc hc hw (by decide)) fun v hv=>Ok.one hv
theorem ET:Ok (fun _=>True) (sU c):=by
 rw[DQ,DL,Option.bind_some]
 exact Ok.bnd (Ri hc (Int.le_refl _) (by show(0:Int)≤(c.length:Int); omega)) fun z hz=>Ok.one trivial
end
end Go.Proofs.YtddiiceaindlhaaGreatDoor.Abs
