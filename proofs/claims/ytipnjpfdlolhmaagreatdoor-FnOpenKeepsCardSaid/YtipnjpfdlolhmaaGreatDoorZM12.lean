/- Plain laws: the reference's reading of formulas always gives something small: by itself, with no other reader beside it. -/
import Derived.Test.YtipnjpfdlolhmaaGreatDoorZM7
import Derived.Test.YtipnjpfdlolhmaaGreatDoorZM8
set_option linter.unusedVariables false
set_option linter.unusedSimpArgs false
set_option linter.unusedSectionVars false
namespace Go.Proofs.YtipnjpfdlolhmaaGreatDoor.Abs
open Go
def TS (s m:ag) (G:RS):Prop := ∃(i:Int) (l:ag) (b:Bool) (ns:List ab),G=some ((i,()),((ba s,bU s l,b,ns,()),()))∧l <:+ s∧(b=false→l <:+ m∧sm ns=true∧ns.length≤60)∧ns.length≤61+m.length
theorem TS.up {s m m':ag} {G:RS} (h:TS s m G) (k:m <:+ m'):TS s m' G:=by
 obtain⟨i,l,b,ns,e,h1,h2,h3⟩:=h
 have:=aJ k
 exact⟨i,l,b,ns,e,h1,fun hb=>⟨aj (h2 hb).1 k,(h2 hb).2⟩,by omega⟩
def Ut (f:List ab):Prop:=f.length≤60 ∧ ∀ x∈f,x.2.2.1.2.2.1.size≤201∧x.2.2.2.2.2.1.length≤10
theorem Ut.set {f:List ab} (h:Ut f) {i:Nat} {x:ab} (hx:x.2.2.1.2.2.1.size≤201∧x.2.2.2.2.2.1.length≤10):Ut (f.set i x):=by
 refine⟨by rw[List.length_set]; exact h.1,fun c hc => ?_⟩
 rcases List.mem_or_eq_of_mem_set hc with k | rfl
 ·exact h.2 c k
 ·exact hx
theorem Ut.at {f:List ab} (h:Ut f) {i:Nat}:(f.getD i (af.dflt)).2.2.1.2.2.1.size≤201∧(f.getD i (af.dflt)).2.2.2.2.2.1.length≤10:=by
 rw[List.getD_eq_getElem?_getD]
 by_cases e:i < f.length
 ·rw[List.getElem?_eq_getElem e]; exact h.2 _ (List.getElem_mem e)
 ·rw[List.getElem?_eq_none (by omega)]; exact⟨by decide,by decide⟩
end Go.Proofs.YtipnjpfdlolhmaaGreatDoor.Abs
