/- The laws' helpers: sizes, copies, comparing. Printed by helpers.py. -/
import Derived.Test.YteaahciglahehaaGreatDoorZM2
import Derived.Test.YteaahciglahehaaGreatDoorZM4
set_option linter.unusedVariables false
set_option linter.unusedSimpArgs false
set_option linter.unusedSectionVars false
namespace Go.Proofs.YteaahciglahehaaGreatDoor.Abs
open Go
theorem Lj (x:ao):Hd x=some ((x,()),()):=by
 rw[UX]
theorem yc {a:ao}:tf a a=some ((true,()),()):=by
 rw[Vg]
 simp
def lM (x:ae):Nat:=x.2.1.size+0
theorem TY {x:ae} {left:Int} (hs:s5 aj x) (h0:0≤left) (h1:left≤9223372036854775807):D4 x left=some ((cO left (lM x),()),()):=by
 have hm:maxLen=9223372036854775807:=rfl
 rw[Sr]
 unfold lM
 have hk:x.2.1.size≤maxLen:=hs.2.1
 obtain⟨e1,e2⟩:=Ei (n:=x.2.1.size) h0 h1 (by omega)
 by_cases hn:cO left (x.2.1.size) < 0
 ·rw[aB (e1.2 hn),vW hn]
 have hle:=C6 (n:=x.2.1.size) h0
 rw[aA (fun h=>hn (e1.1 h)),e2 hn,←zP hn]
 replace h1:cO left (x.2.1.size)≤9223372036854775807:=by omega
 replace h0:0≤cO left (x.2.1.size):=by omega
 clear e1 e2 hn hk hle
 generalize cO left (x.2.1.size)=left at h0 h1 ⊢
 exact Nc left h0 h1
theorem TZ (x:ae):D6 x=some ((x,()),()):=by
 rw[Su,Lj]
 rfl
theorem T0 {a:ae}:Ee a a=some ((true,()),()):=by
 rw[S7]
 simp[yc]
theorem Fm {xs:List ae} {left:Int} (hs:xs.length≤maxLen ∧ ∀ x∈xs,s5 aj x) (h0:0≤left) (h1:left≤9223372036854775807):A2 xs left=some ((cO left (xs.length+oj lM xs),()),()):=by
 have hm:maxLen=9223372036854775807:=rfl
 have hq:=hs.1
 rw[Pz]
 have hk:xs.length≤maxLen:=hq
 obtain⟨e1,e2⟩:=Ei (n:=xs.length) h0 h1 (by omega)
 by_cases hn:cO left (xs.length) < 0
 ·rw[aB (e1.2 hn),vW hn]
 have hle:=C6 (n:=xs.length) h0
 rw[aA (fun h=>hn (e1.1 h)),e2 hn,←zP hn]
 replace h1:cO left (xs.length)≤9223372036854775807:=by omega
 replace h0:0≤cO left (xs.length):=by omega
 clear e1 e2 hn hk hle
 generalize cO left (xs.length)=left at h0 h1 ⊢
 exact Nd (c:=D4) (fun l i=>IV) (fun y hy l h0 h1=>TY (hs.2 y hy) h0 h1) (by omega) left h0 h1
theorem Fo {xs:List ae} (h:(xs.length+oj lM xs)≤1048576):jG xs=some ((xs,()),()):=by
 rw[PB,zN (by omega)]
 exact Nf (c:=D6) (fun i zs=>IX) (fun y hy=>TZ y) (by omega) _ (by simp)
theorem yQ {xs:List ae} (h:xs.length≤4611686018427387904):pd xs xs=some ((true,()),()):=by
 have hl:=h
 rw[P6,if_neg (by simp)]
 refine Bg (B:=fun y y' k=>(Ee y y').bind fun z=>if(!z.1.1)=true then some ((false,()),()) else k) (fun i=>I3) (fun y hy k => ?_) (by omega)
 rw[T0]
 rfl
def oQ (x:aV):Nat:=x.2.2.1.size+0
theorem T1 {x:aV} {left:Int} (hs:s5 aG x) (h0:0≤left) (h1:left≤9223372036854775807):D5 x left=some ((cO left (oQ x),()),()):=by
 have hm:maxLen=9223372036854775807:=rfl
 rw[Ss]
 unfold oQ
 have hk:x.2.2.1.size≤maxLen:=hs.2.2.1
 obtain⟨e1,e2⟩:=Ei (n:=x.2.2.1.size) h0 h1 (by omega)
 by_cases hn:cO left (x.2.2.1.size) < 0
 ·rw[aB (e1.2 hn),vW hn]
 have hle:=C6 (n:=x.2.2.1.size) h0
 rw[aA (fun h=>hn (e1.1 h)),e2 hn,←zP hn]
 replace h1:cO left (x.2.2.1.size)≤9223372036854775807:=by omega
 replace h0:0≤cO left (x.2.2.1.size):=by omega
 clear e1 e2 hn hk hle
 generalize cO left (x.2.2.1.size)=left at h0 h1 ⊢
 exact Nc left h0 h1
theorem T2 (x:aV):D7 x=some ((x,()),()):=by
 rw[Sv,Lj]
 rfl
theorem T3 {a:aV}:Ef a a=some ((true,()),()):=by
 rw[S8]
 simp[yc]
theorem Fp {xs:List aV} {left:Int} (hs:xs.length≤maxLen ∧ ∀ x∈xs,s5 aG x) (h0:0≤left) (h1:left≤9223372036854775807):A3 xs left=some ((cO left (xs.length+oj oQ xs),()),()):=by
 have hm:maxLen=9223372036854775807:=rfl
 have hq:=hs.1
 rw[PA]
 have hk:xs.length≤maxLen:=hq
 obtain⟨e1,e2⟩:=Ei (n:=xs.length) h0 h1 (by omega)
 by_cases hn:cO left (xs.length) < 0
 ·rw[aB (e1.2 hn),vW hn]
 have hle:=C6 (n:=xs.length) h0
 rw[aA (fun h=>hn (e1.1 h)),e2 hn,←zP hn]
 replace h1:cO left (xs.length)≤9223372036854775807:=by omega
 replace h0:0≤cO left (xs.length):=by omega
 clear e1 e2 hn hk hle
 generalize cO left (xs.length)=left at h0 h1 ⊢
 exact Nd (c:=D5) (fun l i=>IW) (fun y hy l h0 h1=>T1 (hs.2 y hy) h0 h1) (by omega) left h0 h1
theorem Fq {xs:List aV} (h:(xs.length+oj oQ xs)≤1048576):jH xs=some ((xs,()),()):=by
 rw[PC,zN (by omega)]
 exact Nf (c:=D7) (fun i zs=>IY) (fun y hy=>T2 y) (by omega) _ (by simp)
theorem Fs {xs:List aV} (h:xs.length≤4611686018427387904):Bb xs xs=some ((true,()),()):=by
 have hl:=h
 rw[P7,if_neg (by simp)]
 refine Bg (B:=fun y y' k=>(Ef y y').bind fun z=>if(!z.1.1)=true then some ((false,()),()) else k) (fun i=>I4) (fun y hy k => ?_) (by omega)
 rw[T3]
 rfl
theorem T4 {a:ag}:Eh a a=some ((true,()),()):=by
 rw[Tb]
 simp[yc]
theorem Qq {xs:List ag} (h:xs.length≤4611686018427387904):vM xs xs=some ((true,()),()):=by
 have hl:=h
 rw[P8,if_neg (by simp)]
 refine Bg (B:=fun y y' k=>(Eh y y').bind fun z=>if(!z.1.1)=true then some ((false,()),()) else k) (fun i=>I5) (fun y hy k => ?_) (by omega)
 rw[T4]
 rfl
theorem T5 {xs:List ao} (h:xs.length≤4611686018427387904):zI xs xs=some ((true,()),()):=by
 have hl:=h
 rw[Tc,if_neg (by simp)]
 refine Bg (B:=fun y y' k=>(tf y y').bind fun z=>if(!z.1.1)=true then some ((false,()),()) else k) (fun i=>LN) (fun y hy k => ?_) (by omega)
 rw[yc]
 rfl
end Go.Proofs.YteaahciglahehaaGreatDoor.Abs
