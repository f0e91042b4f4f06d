/- The laws' helpers: sizes, copies, comparing. Printed by helpers.py. -/
import Derived.Test.YtfffplonjaigkaaGreatDoorZM2
import Derived.Test.YtfffplonjaigkaaGreatDoorZM3
set_option linter.unusedVariables false
set_option linter.unusedSimpArgs false
set_option linter.unusedSectionVars false
open Option renaming bind_some→M0
open _root_ renaming if_neg→M2
namespace Go.Proofs.YtfffplonjaigkaaGreatDoor.Abs
open Go
theorem Du {xs:List Int} {left:Int} (hs:xs.length≤maxLen ∧ ∀ x∈xs,ko (.int .i64) x) (h0:0≤left) (h1:left≤9223372036854775807):tf xs left=some ((bj left (xs.length),()),()):=by
 have hm:maxLen=9223372036854775807:=rfl
 have hq:=hs.1
 rw[Cm]
 show _=some ((bj left (xs.length+0),()),())
 have hk:xs.length≤maxLen:=hq
 obtain⟨e1,e2⟩:=mQ (n:=xs.length) h0 h1 (by omega)
 by_cases hn:bj left (xs.length) < 0
 ·rw[av (e1.2 hn),eH hn]
 have hle:=gM (n:=xs.length) h0
 rw[aq (fun h=>hn (e1.1 h)),e2 hn,←fI hn]
 replace h1:bj left (xs.length)≤9223372036854775807:=by omega
 replace h0:0≤bj left (xs.length):=by omega
 clear e1 e2 hn hk hle
 generalize bj left (xs.length)=left at h0 h1 ⊢
 exact qh left h0 h1
theorem Dv {xs:List Int} (h:xs.length≤1048576):tg xs=some ((xs,()),()):=by
 rw[Co,xb (by omega)]
 exact Hy (fun i zs=>xr) (by omega) _ (by simp)
theorem Dw {xs:List Int} (h:xs.length≤4611686018427387904):tm xs xs=some ((true,()),()):=by
 have hl:=h
 rw[Cz,M2 (by simp)]
 exact rr (B:=fun y y' k=>if(y != y')=true then some ((false,()),()) else k) (fun i=>xu) (fun y hy k=>by simp) (by omega)
theorem Iv (x:eB):B5 x=some ((x,()),()):=by
 rw[HA]
theorem Iw {a:eB}:B8 a a=some ((true,()),()):=by
 rw[HL]
 simp
def i6 (x:bo):Nat:=x.2.1.size+0
theorem GF {x:bo} {left:Int} (hs:ko bq x) (h0:0≤left) (h1:left≤9223372036854775807):ug x left=some ((bj left (i6 x),()),()):=by
 have hm:maxLen=9223372036854775807:=rfl
 rw[FQ]
 unfold i6
 have hk:x.2.1.size≤maxLen:=hs.2.1
 obtain⟨e1,e2⟩:=mQ (n:=x.2.1.size) h0 h1 (by omega)
 by_cases hn:bj left (x.2.1.size) < 0
 ·rw[av (e1.2 hn),eH hn]
 have hle:=gM (n:=x.2.1.size) h0
 rw[aq (fun h=>hn (e1.1 h)),e2 hn,←fI hn]
 replace h1:bj left (x.2.1.size)≤9223372036854775807:=by omega
 replace h0:0≤bj left (x.2.1.size):=by omega
 clear e1 e2 hn hk hle
 generalize bj left (x.2.1.size)=left at h0 h1 ⊢
 exact qh left h0 h1
theorem GG (x:bo):uh x=some ((x,()),()):=by
 rw[FR,Iv]
 rfl
theorem GH {a:bo}:um a a=some ((true,()),()):=by
 rw[F9]
 simp[Iw]
theorem Er {xs:List bo} {left:Int} (hs:xs.length≤maxLen ∧ ∀ x∈xs,ko bq x) (h0:0≤left) (h1:left≤9223372036854775807):vF xs left=some ((bj left (xs.length+fe i6 xs),()),()):=by
 have hm:maxLen=9223372036854775807:=rfl
 have hq:=hs.1
 rw[DS]
 have hk:xs.length≤maxLen:=hq
 obtain⟨e1,e2⟩:=mQ (n:=xs.length) h0 h1 (by omega)
 by_cases hn:bj left (xs.length) < 0
 ·rw[av (e1.2 hn),eH hn]
 have hle:=gM (n:=xs.length) h0
 rw[aq (fun h=>hn (e1.1 h)),e2 hn,←fI hn]
 replace h1:bj left (xs.length)≤9223372036854775807:=by omega
 replace h0:0≤bj left (xs.length):=by omega
 clear e1 e2 hn hk hle
 generalize bj left (xs.length)=left at h0 h1 ⊢
 exact vS (c:=ug) (fun l i=>yC) (fun y hy l h0 h1=>GF (hs.2 y hy) h0 h1) (by omega) left h0 h1
theorem Es {xs:List bo} (h:(xs.length+fe i6 xs)≤1048576):vG xs=some ((xs,()),()):=by
 rw[DT,xb (by omega)]
 exact rq (c:=uh) (fun i zs=>yD) (fun y hy=>GG y) (by omega) _ (by simp)
theorem Et {xs:List bo} (h:xs.length≤4611686018427387904):vP xs xs=some ((true,()),()):=by
 have hl:=h
 rw[Ef,M2 (by simp)]
 refine rr (B:=fun y y' k=>(um y y').bind fun z=>if(!z.1.1)=true then some ((false,()),()) else k) (fun i=>yH) (fun y hy k => ?_) (by omega)
 rw[GH]
 rfl
def cn (x:an):Nat:=x.2.1.length+((x.2.2.1.length+fe i6 x.2.2.1)+0)
theorem AW {x:an} {left:Int} (hs:ko cH x) (h0:0≤left) (h1:left≤9223372036854775807):mq x left=some ((bj left (cn x),()),()):=by
 have hm:maxLen=9223372036854775807:=rfl
 rw[Ax]
 unfold cn
 rw[Du hs.2.1 h0 h1,M0]
 dsimp only
 by_cases hn:bj left (x.2.1.length) < 0
 ·rw[av hn,eH hn]
 have hle:=gM (n:=x.2.1.length) h0
 rw[aq hn,←fI hn]
 replace h1:bj left (x.2.1.length)≤9223372036854775807:=by omega
 replace h0:0≤bj left (x.2.1.length):=by omega
 clear hn hle
 generalize bj left (x.2.1.length)=left at h0 h1 ⊢
 rw[Er hs.2.2.1 h0 h1,M0]
 dsimp only
 by_cases hn:bj left ((x.2.2.1.length+fe i6 x.2.2.1)) < 0
 ·rw[av hn,eH hn]
 have hle:=gM (n:=(x.2.2.1.length+fe i6 x.2.2.1)) h0
 rw[aq hn,←fI hn]
 replace h1:bj left ((x.2.2.1.length+fe i6 x.2.2.1))≤9223372036854775807:=by omega
 replace h0:0≤bj left ((x.2.2.1.length+fe i6 x.2.2.1)):=by omega
 clear hn hle
 generalize bj left ((x.2.2.1.length+fe i6 x.2.2.1))=left at h0 h1 ⊢
 exact qh left h0 h1
theorem AX {x:an} (h:cn x≤1048576):mr x=some ((x,()),()):=by
 unfold cn at h
 rw[Az]
 rw[Dv (by omega),M0]
 rw[Es (by omega),M0]
def tV (x:an):Prop:=x.2.1.length≤4611686018427387904∧x.2.2.1.length≤4611686018427387904
theorem AY {a:an} (h:tV a):mz a a=some ((true,()),()):=by
 rw[AU]
 simp[Dw (h.1),Et (h.2)]
theorem za {xs:List an} {left:Int} (hs:xs.length≤maxLen ∧ ∀ x∈xs,ko cH x) (h0:0≤left) (h1:left≤9223372036854775807):pb xs left=some ((bj left (xs.length+fe cn xs),()),()):=by
 have hm:maxLen=9223372036854775807:=rfl
 have hq:=hs.1
 rw[yv]
 have hk:xs.length≤maxLen:=hq
 obtain⟨e1,e2⟩:=mQ (n:=xs.length) h0 h1 (by omega)
 by_cases hn:bj left (xs.length) < 0
 ·rw[av (e1.2 hn),eH hn]
 have hle:=gM (n:=xs.length) h0
 rw[aq (fun h=>hn (e1.1 h)),e2 hn,←fI hn]
 replace h1:bj left (xs.length)≤9223372036854775807:=by omega
 replace h0:0≤bj left (xs.length):=by omega
 clear e1 e2 hn hk hle
 generalize bj left (xs.length)=left at h0 h1 ⊢
 exact vS (c:=mq) (fun l i=>uI) (fun y hy l h0 h1=>AW (hs.2 y hy) h0 h1) (by omega) left h0 h1
theorem zb {xs:List an} (h:(xs.length+fe cn xs)≤1048576):pc xs=some ((xs,()),()):=by
 rw[yw,xb (by omega)]
 exact rq (c:=mr) (fun i zs=>uJ) (fun y hy=>AX (by have:=uo (f:=cn) hy; omega)) (by omega) _ (by simp)
theorem zd {xs:List an} (h:(xs.length≤4611686018427387904 ∧ ∀ y∈xs,tV y)):pe xs xs=some ((true,()),()):=by
 have hl:=h.1
 rw[yA,M2 (by simp)]
 refine rr (B:=fun y y' k=>(mz y y').bind fun z=>if(!z.1.1)=true then some ((false,()),()) else k) (fun i=>uL) (fun y hy k => ?_) (by omega)
 rw[AY (h.2 y hy)]
 rfl
def eX (x:aA):Nat:=x.1.size+0
theorem Dx {x:aA} {left:Int} (hs:ko aN x) (h0:0≤left) (h1:left≤9223372036854775807):oC x left=some ((bj left (eX x),()),()):=by
 have hm:maxLen=9223372036854775807:=rfl
 rw[Cn]
 unfold eX
 have hk:x.1.size≤maxLen:=hs.1
 obtain⟨e1,e2⟩:=mQ (n:=x.1.size) h0 h1 (by omega)
 by_cases hn:bj left (x.1.size) < 0
 ·rw[av (e1.2 hn),eH hn]
 have hle:=gM (n:=x.1.size) h0
 rw[aq (fun h=>hn (e1.1 h)),e2 hn,←fI hn]
 replace h1:bj left (x.1.size)≤9223372036854775807:=by omega
 replace h0:0≤bj left (x.1.size):=by omega
 clear e1 e2 hn hk hle
 generalize bj left (x.1.size)=left at h0 h1 ⊢
 exact qh left h0 h1
theorem Dy (x:aA):oD x=some ((x,()),()):=by
 rw[Cp]
theorem Dz {a:aA}:oI a a=some ((true,()),()):=by
 rw[CA]
 simp
theorem AZ {xs:List aA} {left:Int} (hs:xs.length≤maxLen ∧ ∀ x∈xs,ko aN x) (h0:0≤left) (h1:left≤9223372036854775807):rd xs left=some ((bj left (xs.length+fe eX xs),()),()):=by
 have hm:maxLen=9223372036854775807:=rfl
 have hq:=hs.1
 rw[Ay]
 have hk:xs.length≤maxLen:=hq
 obtain⟨e1,e2⟩:=mQ (n:=xs.length) h0 h1 (by omega)
 by_cases hn:bj left (xs.length) < 0
 ·rw[av (e1.2 hn),eH hn]
 have hle:=gM (n:=xs.length) h0
 rw[aq (fun h=>hn (e1.1 h)),e2 hn,←fI hn]
 replace h1:bj left (xs.length)≤9223372036854775807:=by omega
 replace h0:0≤bj left (xs.length):=by omega
 clear e1 e2 hn hk hle
 generalize bj left (xs.length)=left at h0 h1 ⊢
 exact vS (c:=oC) (fun l i=>vV) (fun y hy l h0 h1=>Dx (hs.2 y hy) h0 h1) (by omega) left h0 h1
theorem A0 {xs:List aA} (h:(xs.length+fe eX xs)≤1048576):re xs=some ((xs,()),()):=by
 rw[AA,xb (by omega)]
 exact rq (c:=oD) (fun i zs=>vW) (fun y hy=>Dy y) (by omega) _ (by simp)
theorem A1 {xs:List aA} (h:xs.length≤4611686018427387904):rn xs xs=some ((true,()),()):=by
 have hl:=h
 rw[AV,M2 (by simp)]
 refine rr (B:=fun y y' k=>(oI y y').bind fun z=>if(!z.1.1)=true then some ((false,()),()) else k) (fun i=>vZ) (fun y hy k => ?_) (by omega)
 rw[Dz]
 rfl
def ld (x:bw):Nat:=(x.2.1.length+fe cn x.2.1)+((x.2.2.1.length+fe eX x.2.2.1)+0)
theorem Ix {x:bw} {left:Int} (hs:ko ng x) (h0:0≤left) (h1:left≤9223372036854775807):B4 x left=some ((bj left (ld x),()),()):=by
 have hm:maxLen=9223372036854775807:=rfl
 rw[Hz]
 unfold ld
 rw[za hs.2.1 h0 h1,M0]
 dsimp only
 by_cases hn:bj left ((x.2.1.length+fe cn x.2.1)) < 0
 ·rw[av hn,eH hn]
 have hle:=gM (n:=(x.2.1.length+fe cn x.2.1)) h0
 rw[aq hn,←fI hn]
 replace h1:bj left ((x.2.1.length+fe cn x.2.1))≤9223372036854775807:=by omega
 replace h0:0≤bj left ((x.2.1.length+fe cn x.2.1)):=by omega
 clear hn hle
 generalize bj left ((x.2.1.length+fe cn x.2.1))=left at h0 h1 ⊢
 rw[AZ hs.2.2.1 h0 h1,M0]
 dsimp only
 by_cases hn:bj left ((x.2.2.1.length+fe eX x.2.2.1)) < 0
 ·rw[av hn,eH hn]
 have hle:=gM (n:=(x.2.2.1.length+fe eX x.2.2.1)) h0
 rw[aq hn,←fI hn]
 replace h1:bj left ((x.2.2.1.length+fe eX x.2.2.1))≤9223372036854775807:=by omega
 replace h0:0≤bj left ((x.2.2.1.length+fe eX x.2.2.1)):=by omega
 clear hn hle
 generalize bj left ((x.2.2.1.length+fe eX x.2.2.1))=left at h0 h1 ⊢
 exact qh left h0 h1
theorem Iy {x:bw} (h:ld x≤1048576):th x=some ((x,()),()):=by
 unfold ld at h
 rw[HC]
 rw[zb (by omega),M0]
 rw[A0 (by omega),M0]
def J1 (x:bw):Prop:=(x.2.1.length≤4611686018427387904 ∧ ∀ y∈x.2.1,tV y)∧x.2.2.1.length≤4611686018427387904
theorem Iz {a:bw} (h:J1 a):B9 a a=some ((true,()),()):=by
 rw[HM]
 simp[zd (h.1),A1 (h.2)]
end Go.Proofs.YtfffplonjaigkaaGreatDoor.Abs
