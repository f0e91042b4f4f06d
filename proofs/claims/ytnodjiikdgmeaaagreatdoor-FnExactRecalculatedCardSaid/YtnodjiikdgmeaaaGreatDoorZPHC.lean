/- The laws' helpers: sizes, copies, comparing. Printed by helpers.py. -/
import Derived.Test.YtnodjiikdgmeaaaGreatDoorZM2
import Derived.Test.YtnodjiikdgmeaaaGreatDoorZM4
set_option linter.unusedVariables false
set_option linter.unusedSimpArgs false
set_option linter.unusedSectionVars false
namespace Go.Proofs.YtnodjiikdgmeaaaGreatDoor.Abs
open Go
theorem BC (x:al):wT x=some ((x,()),()):=by
 rw[Rc]
theorem BD {a:al}:xb a a=some ((true,()),()):=by
 rw[Rt]
 simp
def kV (x:aj):Nat:=x.2.1.size+0
theorem Qf {x:aj} {left:Int} (hs:oF ap x) (h0:0≤left) (h1:left≤9223372036854775807):BT x left=some ((b9 left (kV x),()),()):=by
 have hm:maxLen=9223372036854775807:=rfl
 rw[OL]
 unfold kV
 have hk:x.2.1.size≤maxLen:=hs.2.1
 obtain⟨e1,e2⟩:=xh (n:=x.2.1.size) h0 h1 (by omega)
 by_cases hn:b9 left (x.2.1.size) < 0
 ·rw[az (e1.2 hn),nG hn]
 have hle:=tV (n:=x.2.1.size) h0
 rw[aw (fun h=>hn (e1.1 h)),e2 hn,←qh hn]
 replace h1:b9 left (x.2.1.size)≤9223372036854775807:=by omega
 replace h0:0≤b9 left (x.2.1.size):=by omega
 clear e1 e2 hn hk hle
 generalize b9 left (x.2.1.size)=left at h0 h1 ⊢
 exact AR left h0 h1
theorem Qg (x:aj):BU x=some ((x,()),()):=by
 rw[OM,BC]
 rfl
theorem Qh {a:aj}:B1 a a=some ((true,()),()):=by
 rw[Pn]
 simp[BD]
theorem C3 {xs:List aj} {left:Int} (hs:xs.length≤maxLen ∧ ∀ x∈xs,oF ap x) (h0:0≤left) (h1:left≤9223372036854775807):yo xs left=some ((b9 left (xs.length+nZ kV xs),()),()):=by
 have hm:maxLen=9223372036854775807:=rfl
 have hq:=hs.1
 rw[Mk]
 have hk:xs.length≤maxLen:=hq
 obtain⟨e1,e2⟩:=xh (n:=xs.length) h0 h1 (by omega)
 by_cases hn:b9 left (xs.length) < 0
 ·rw[az (e1.2 hn),nG hn]
 have hle:=tV (n:=xs.length) h0
 rw[aw (fun h=>hn (e1.1 h)),e2 hn,←qh hn]
 replace h1:b9 left (xs.length)≤9223372036854775807:=by omega
 replace h0:0≤b9 left (xs.length):=by omega
 clear e1 e2 hn hk hle
 generalize b9 left (xs.length)=left at h0 h1 ⊢
 exact Kk (c:=BT) (fun l i=>Gy) (fun y hy l h0 h1=>Qf (hs.2 y hy) h0 h1) (by omega) left h0 h1
theorem C4 {xs:List aj} (h:(xs.length+nZ kV xs)≤1048576):iX xs=some ((xs,()),()):=by
 rw[Ml,rt (by omega)]
 exact Dw (c:=BU) (fun i zs=>Gz) (fun y hy=>Qg y) (by omega) _ (by simp)
theorem C5 {xs:List aj} (h:xs.length≤4611686018427387904):yB xs xs=some ((true,()),()):=by
 have hl:=h
 rw[MM,if_neg (by simp)]
 refine Dx (B:=fun y y' k=>(B1 y y').bind fun z=>if(!z.1.1)=true then some ((false,()),()) else k) (fun i=>GC) (fun y hy k => ?_) (by omega)
 rw[Qh]
 rfl
def pF (x:ab):Nat:=x.2.2.1.size+0
theorem M3 {x:ab} {left:Int} (hs:oF ag x) (h0:0≤left) (h1:left≤9223372036854775807):Du x left=some ((b9 left (pF x),()),()):=by
 have hm:maxLen=9223372036854775807:=rfl
 rw[MN]
 unfold pF
 have hk:x.2.2.1.size≤maxLen:=hs.2.2.1
 obtain⟨e1,e2⟩:=xh (n:=x.2.2.1.size) h0 h1 (by omega)
 by_cases hn:b9 left (x.2.2.1.size) < 0
 ·rw[az (e1.2 hn),nG hn]
 have hle:=tV (n:=x.2.2.1.size) h0
 rw[aw (fun h=>hn (e1.1 h)),e2 hn,←qh hn]
 replace h1:b9 left (x.2.2.1.size)≤9223372036854775807:=by omega
 replace h0:0≤b9 left (x.2.2.1.size):=by omega
 clear e1 e2 hn hk hle
 generalize b9 left (x.2.2.1.size)=left at h0 h1 ⊢
 exact AR left h0 h1
theorem M4 (x:ab):Dv x=some ((x,()),()):=by
 rw[MO]
theorem M5 {a:ab}:Dt a a=some ((true,()),()):=by
 rw[ML]
 simp
def eX (x:ac):Nat:=pF x.2.1+0
theorem F4 {x:ac} {left:Int} (hs:oF ae x) (h0:0≤left) (h1:left≤9223372036854775807):oY x left=some ((b9 left (eX x),()),()):=by
 have hm:maxLen=9223372036854775807:=rfl
 rw[Fj]
 unfold eX
 rw[M3 hs.2.1 h0 h1,Option.bind_some]
 dsimp only
 by_cases hn:b9 left (pF x.2.1) < 0
 ·rw[az hn,nG hn]
 have hle:=tV (n:=pF x.2.1) h0
 rw[aw hn,←qh hn]
 replace h1:b9 left (pF x.2.1)≤9223372036854775807:=by omega
 replace h0:0≤b9 left (pF x.2.1):=by omega
 clear hn hle
 generalize b9 left (pF x.2.1)=left at h0 h1 ⊢
 exact AR left h0 h1
theorem F5 (x:ac):oZ x=some ((x,()),()):=by
 rw[Fk,BC,M4]
 rfl
theorem F6 {a:ac}:oW a a=some ((true,()),()):=by
 rw[Fh]
 simp[BD,M5]
theorem D5 {xs:List ac} {left:Int} (hs:xs.length≤maxLen ∧ ∀ x∈xs,oF ae x) (h0:0≤left) (h1:left≤9223372036854775807):rP xs left=some ((b9 left (xs.length+nZ eX xs),()),()):=by
 have hm:maxLen=9223372036854775807:=rfl
 have hq:=hs.1
 rw[DC]
 have hk:xs.length≤maxLen:=hq
 obtain⟨e1,e2⟩:=xh (n:=xs.length) h0 h1 (by omega)
 by_cases hn:b9 left (xs.length) < 0
 ·rw[az (e1.2 hn),nG hn]
 have hle:=tV (n:=xs.length) h0
 rw[aw (fun h=>hn (e1.1 h)),e2 hn,←qh hn]
 replace h1:b9 left (xs.length)≤9223372036854775807:=by omega
 replace h0:0≤b9 left (xs.length):=by omega
 clear e1 e2 hn hk hle
 generalize b9 left (xs.length)=left at h0 h1 ⊢
 exact Kk (c:=oY) (fun l i=>Ac) (fun y hy l h0 h1=>F4 (hs.2 y hy) h0 h1) (by omega) left h0 h1
theorem D6 {xs:List ac} (h:(xs.length+nZ eX xs)≤1048576):il xs=some ((xs,()),()):=by
 rw[DD,rt (by omega)]
 exact Dw (c:=oZ) (fun i zs=>Ad) (fun y hy=>F5 y) (by omega) _ (by simp)
theorem nL {xs:List ac} (h:xs.length≤4611686018427387904):en xs xs=some ((true,()),()):=by
 have hl:=h
 rw[DB,if_neg (by simp)]
 refine Dx (B:=fun y y' k=>(oW y y').bind fun z=>if(!z.1.1)=true then some ((false,()),()) else k) (fun i=>Ab) (fun y hy k => ?_) (by omega)
 rw[F6]
 rfl
theorem Qi {xs:List al} {left:Int} (hs:xs.length≤maxLen ∧ ∀ x∈xs,oF ao x) (h0:0≤left) (h1:left≤9223372036854775807):Gs xs left=some ((b9 left (xs.length),()),()):=by
 have hm:maxLen=9223372036854775807:=rfl
 have hq:=hs.1
 rw[Po]
 show _=some ((b9 left (xs.length+0),()),())
 have hk:xs.length≤maxLen:=hq
 obtain⟨e1,e2⟩:=xh (n:=xs.length) h0 h1 (by omega)
 by_cases hn:b9 left (xs.length) < 0
 ·rw[az (e1.2 hn),nG hn]
 have hle:=tV (n:=xs.length) h0
 rw[aw (fun h=>hn (e1.1 h)),e2 hn,←qh hn]
 replace h1:b9 left (xs.length)≤9223372036854775807:=by omega
 replace h0:0≤b9 left (xs.length):=by omega
 clear e1 e2 hn hk hle
 generalize b9 left (xs.length)=left at h0 h1 ⊢
 exact AR left h0 h1
theorem Qj {xs:List al} (h:xs.length≤1048576):s9 xs=some ((xs,()),()):=by
 rw[Pp,rt (by omega)]
 exact Dw (c:=wT) (fun i zs=>IX) (fun y hy=>BC y) (by omega) _ (by simp)
theorem Qk {xs:List al} (h:xs.length≤4611686018427387904):Gt xs xs=some ((true,()),()):=by
 have hl:=h
 rw[Pq,if_neg (by simp)]
 refine Dx (B:=fun y y' k=>(xb y y').bind fun z=>if(!z.1.1)=true then some ((false,()),()) else k) (fun i=>IY) (fun y hy k => ?_) (by omega)
 rw[BD]
 rfl
end Go.Proofs.YtnodjiikdgmeaaaGreatDoor.Abs
