/- The laws' helpers: sizes, copies, comparing. Printed by helpers.py. -/
import Derived.Test.YtddiiceaindlhaaGreatDoorZP1
import Derived.Test.YtddiiceaindlhaaGreatDoorZQ1
set_option linter.unusedVariables false
set_option linter.unusedSimpArgs false
set_option linter.unusedSectionVars false
namespace Go.Proofs.YtddiiceaindlhaaGreatDoor.Abs
open Go
theorem AL (x:ai):wo x=some ((x,()),()):=by
 rw[O3]
theorem AM {a:ai}:wC a a=some ((true,()),()):=by
 rw[Pg]
 simp
def ir (x:ab):Nat:=x.2.1.size+0
theorem Ob {x:ab} {left:Int} (hs:oe ac x) (h0:0≤left) (h1:left≤9223372036854775807):A7 x left=some ((cD left (ir x),()),()):=by
 have hm:maxLen=9223372036854775807:=rfl
 rw[MU]
 unfold ir
 have hk:x.2.1.size≤maxLen:=hs.2.1
 obtain⟨e1,e2⟩:=Bj (n:=x.2.1.size) h0 h1 (by omega)
 by_cases hn:cD left (x.2.1.size) < 0
 ·rw[aD (e1.2 hn),tK hn]
 have hle:=zY (n:=x.2.1.size) h0
 rw[av (fun h=>hn (e1.1 h)),e2 hn,←wT hn]
 replace h1:cD left (x.2.1.size)≤9223372036854775807:=by omega
 replace h0:0≤cD left (x.2.1.size):=by omega
 clear e1 e2 hn hk hle
 generalize cD left (x.2.1.size)=left at h0 h1 ⊢
 exact JR left h0 h1
theorem Oc (x:ab):A8 x=some ((x,()),()):=by
 rw[MW,AL]
 rfl
theorem Od {a:ab}:Bf a a=some ((true,()),()):=by
 rw[Nm]
 simp[AM]
theorem vK {xs:List ab} {left:Int} (hs:xs.length≤maxLen ∧ ∀ x∈xs,oe ac x) (h0:0≤left) (h1:left≤9223372036854775807):s4 xs left=some ((cD left (xs.length+l5 ir xs),()),()):=by
 have hm:maxLen=9223372036854775807:=rfl
 have hq:=hs.1
 rw[KR]
 have hk:xs.length≤maxLen:=hq
 obtain⟨e1,e2⟩:=Bj (n:=xs.length) h0 h1 (by omega)
 by_cases hn:cD left (xs.length) < 0
 ·rw[aD (e1.2 hn),tK hn]
 have hle:=zY (n:=xs.length) h0
 rw[av (fun h=>hn (e1.1 h)),e2 hn,←wT hn]
 replace h1:cD left (xs.length)≤9223372036854775807:=by omega
 replace h0:0≤cD left (xs.length):=by omega
 clear e1 e2 hn hk hle
 generalize cD left (xs.length)=left at h0 h1 ⊢
 exact JS (c:=A7) (fun l i=>FR) (fun y hy l h0 h1=>Ob (hs.2 y hy) h0 h1) (by omega) left h0 h1
theorem vL {xs:List ab} (h:(xs.length+l5 ir xs)≤1048576):eT xs=some ((xs,()),()):=by
 rw[KS,Ph (by omega)]
 exact JT (c:=A8) (fun i zs=>FS) (fun y hy=>Oc y) (by omega) _ (by simp)
theorem mH {xs:List ab} (h:xs.length≤4611686018427387904):gV xs xs=some ((true,()),()):=by
 have hl:=h
 rw[Li,if_neg (by simp)]
 refine JU (B:=fun y y' k=>(Bf y y').bind fun z=>if(!z.1.1)=true then some ((false,()),()) else k) (fun i=>FV) (fun y hy k => ?_) (by omega)
 rw[Od]
 rfl
theorem Oe (x:bj):FD x=some ((x,()),()):=by
 rw[MX]
 repeat (first | rw[AL,Option.bind_some])
 try rfl
theorem Of {a:bj}:FJ a a=some ((true,()),()):=by
 rw[Np]
 simp[AM]
def iJ (x:aJ):Nat:=x.2.2.1.size+0
theorem yz {x:aJ} {left:Int} (hs:oe ak x) (h0:0≤left) (h1:left≤9223372036854775807):sA x left=some ((cD left (iJ x),()),()):=by
 have hm:maxLen=9223372036854775807:=rfl
 rw[MV]
 unfold iJ
 have hk:x.2.2.1.size≤maxLen:=hs.2.2.1
 obtain⟨e1,e2⟩:=Bj (n:=x.2.2.1.size) h0 h1 (by omega)
 by_cases hn:cD left (x.2.2.1.size) < 0
 ·rw[aD (e1.2 hn),tK hn]
 have hle:=zY (n:=x.2.2.1.size) h0
 rw[av (fun h=>hn (e1.1 h)),e2 hn,←wT hn]
 replace h1:cD left (x.2.2.1.size)≤9223372036854775807:=by omega
 replace h0:0≤cD left (x.2.2.1.size):=by omega
 clear e1 e2 hn hk hle
 generalize cD left (x.2.2.1.size)=left at h0 h1 ⊢
 exact JR left h0 h1
theorem yA (x:aJ):jY x=some ((x,()),()):=by
 rw[MY,AL,Oe]
 rfl
theorem Og {a:aJ}:Bg a a=some ((true,()),()):=by
 rw[Nq]
 simp[AM,Of]
theorem Lz {xs:List aJ} {left:Int} (hs:xs.length≤maxLen ∧ ∀ x∈xs,oe ak x) (h0:0≤left) (h1:left≤9223372036854775807):CP xs left=some ((cD left (xs.length+l5 iJ xs),()),()):=by
 have hm:maxLen=9223372036854775807:=rfl
 have hq:=hs.1
 rw[Ll]
 have hk:xs.length≤maxLen:=hq
 obtain⟨e1,e2⟩:=Bj (n:=xs.length) h0 h1 (by omega)
 by_cases hn:cD left (xs.length) < 0
 ·rw[aD (e1.2 hn),tK hn]
 have hle:=zY (n:=xs.length) h0
 rw[av (fun h=>hn (e1.1 h)),e2 hn,←wT hn]
 replace h1:cD left (xs.length)≤9223372036854775807:=by omega
 replace h0:0≤cD left (xs.length):=by omega
 clear e1 e2 hn hk hle
 generalize cD left (xs.length)=left at h0 h1 ⊢
 exact JS (c:=sA) (fun l i=>FX) (fun y hy l h0 h1=>yz (hs.2 y hy) h0 h1) (by omega) left h0 h1
theorem LA {xs:List aJ} (h:(xs.length+l5 iJ xs)≤1048576):pQ xs=some ((xs,()),()):=by
 rw[Lm,Ph (by omega)]
 exact JT (c:=jY) (fun i zs=>FY) (fun y hy=>yA y) (by omega) _ (by simp)
theorem Ct {xs:List aJ} (h:xs.length≤4611686018427387904):pP xs xs=some ((true,()),()):=by
 have hl:=h
 rw[Lj,if_neg (by simp)]
 refine JU (B:=fun y y' k=>(Bg y y').bind fun z=>if(!z.1.1)=true then some ((false,()),()) else k) (fun i=>FW) (fun y hy k => ?_) (by omega)
 rw[Og]
 rfl
end Go.Proofs.YtddiiceaindlhaaGreatDoor.Abs
