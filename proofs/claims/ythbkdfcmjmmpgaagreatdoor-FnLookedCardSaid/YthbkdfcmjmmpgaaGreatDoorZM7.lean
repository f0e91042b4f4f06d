/- Plain laws: a formula's signs and words, as both sides read them. -/
import Derived.Test.YthbkdfcmjmmpgaaGreatDoorZM6
import Derived.Lib.IndexBytes
set_option linter.unusedVariables false
set_option linter.unusedSimpArgs false
set_option linter.unusedSectionVars false
open Bool renaming and_eq_true→ag_,eq_false_iff→cf_,eq_iff_iff→bw_,false_eq_true→ak_,false_or→cz_,not_false→bm_,not_true→bc_,or_eq_true→cx_,true_and→bt_
open ByteArray renaming toList→ah_
open Int renaming toNat_of_nonneg→cp_
open List renaming all_append→cr_,append_nil→bv_,cons_append→cs_,dropWhile_cons_of_neg→bj_,dropWhile_cons_of_pos→fq_,dropWhile_suffix→go_,drop_append→gq_,drop_succ_cons→bu_,drop_zero→cu_,find?_cons→dn_,getD→aw_,head?_cons→dg_,isPrefixOf_iff_prefix→dt_,length_append→af_,length_cons→aj_,length_drop→dp_,length_singleton→ad_,length→am_,mem_cons→bi_,prefix_iff_eq_take→hd_,prefix_refl→du_,takeWhile_cons_of_neg→ez_,take_append→ft_,take_left'→gy_
open Nat renaming le_trans→bq_
open Option renaming bind_some→ab_,map_eq_some_iff→dh_
open Option.some renaming injEq→bd_,inj→ch_
open _root_ renaming ByteArray→aa_,absurd→bh_,beq_iff_eq→bx_,decide_eq_false→bf_,decide_eq_true_eq→ai_,decide_eq_true→bb_,decide_false→cy_,decide_true→ck_,if_false→av_,if_neg→ac_,if_pos→ae_,if_true→ba_
namespace Go.Proofs.YthbkdfcmjmmpgaaGreatDoor.Abs
open Go
def Dq (c:UInt8):Bool:=decide (c=32)
def bl (l:aj):aj:=l.dropWhile Dq
def bb (c:UInt8):Bool:=eQ c || dw c || decide (c=36)
theorem abH:(fun c=>([32]:aj).contains c)=Dq:=funext fun c=>qB (p:=fun c=>([32]:aj).contains c=Dq c) (by decide +kernel) c
theorem abI:(fun c=>([65,66,67,68,69,70,71,72,73,74,75,76,77,78,79,80,81,82,83,84,85,86,87,88,89,90,48,49,50,51,52,53,54,55,56,57,36]:aj).contains c)=bb:=funext fun c=>qB (p:=fun c=>([65,66,67,68,69,70,71,72,73,74,75,76,77,78,79,80,81,82,83,84,85,86,87,88,89,90,48,49,50,51,52,53,54,55,56,57,36]:aj).contains c=bb c) (by decide +kernel) c
theorem H9 (p:UInt8→Bool) : ∀ l:aj,(l.dropWhile p).dropWhile p=l.dropWhile p
 | []=>rfl
 | c :: l=>by
  cases h:p c with
  | true=>rw[fq_ h,H9 p l]
  | false =>
   have h' : ¬p c=true:=by rw[h]; decide
   rw[bj_ h',bj_ h']
theorem dF (l:aj):bl (bl l)=bl l:=H9 _ _
theorem aH (l:aj):bl l <:+ l:=go_ _
theorem aV {a b:aj} (h:a <:+ b):a.length≤b.length:=h.length_le
theorem nD (l:aj) (b:Bool) (ns:List ab):iM (ba l) b ns=some ((),((ba (bl l),ns,b,()),())):=by
 rw[Eo,show(⟨#[32]⟩:aa_)=ba [32] from rfl,xK _ _ (by decide +kernel),abH]
 rfl
def ZP:List aj:=[[60,62],[60,61],[62,61],[60],[62],[61],[38],[43],[45],[42],[47],[40],[41],[44],[58]]
def sg (l:aj):aj:=(ZP.find? fun p=>p.isPrefixOf l).getD []
theorem Ia {l:aj} {b:Bool} {ns:List ab} (hl:l.length≤1000) {X:List aa_} (hX:X.length≤100) : ∀(ys:List aj) (pre:List aa_),X=pre++ys.map (fun x=>ba x)→l7 (X.length:Int) (pre.length:Int) (ba l) b X ns=some ((ba ((ys.find? fun p=>p.isPrefixOf l).getD []),()),((ba l,ns,b,()),()))
 | [],pre,h=>by
  rw[sS,aE (br (by simpa using h))]
  rfl
 | y :: ys,pre,h=>by
  have h':X=pre++ba y :: ys.map (fun x=>ba x):=by simpa using h
  have hd:aw_ X (Int.toNat (pre.length:Int)) (⟨#[]⟩:aa_)=ba y:=by rw[h']; exact iL
  rw[sS,aJ (bF h'),gH h',hd,sY _ _ (by omega)]
  simp only[ab_,dn_]
  cases hy:y.isPrefixOf l with
  | true=>rfl
  | false =>
   simp only[ak_,av_]
   rw[aM h' (by omega)]
   exact Ia hl hX ys (pre++[ba y]) (by rw[h']; simp)
theorem Pb {l:aj} {b:Bool} {ns:List ab} (hl:l.length≤1000):qj (ba l) b ns=some ((ba (sg (bl l)),()),((ba (bl l),ns,b,()),())):=by
 rw[Hz,nD]
 simp only[ab_]
 have:=aV (aH l)
 exact Ia (by omega) (by decide) ZP [] rfl
theorem Pc (l:aj):(sg l).isPrefixOf l=true:=by
 unfold sg
 cases h:ZP.find? fun p=>p.isPrefixOf l with
 | none=>simp
 | some p =>
  have:=List.find?_some h
  simpa using this
theorem D7 {p l:aj} (h:p.isPrefixOf l=true):p.length≤l.length:=(dt_.1 h).length_le
theorem da {l w:aj} {b:Bool} {ns:List ab} (hl:l.length≤1000):bE (ba w) (ba l) b ns=some ((decide (sg (bl l)=w),()),((ba (if sg (bl l)=w then(bl l).drop w.length else bl l),ns,b,()),())):=by
 rw[HA,Pb hl]
 simp only[ab_,dK]
 by_cases h:sg (bl l)=w
 ·have:=D7 (Pc (bl l))
  rw[h] at this
  simp only[h,ck_,bc_,ak_,av_,ba_,aK]
  rw[ge this]
 ·simp[h]
def gO (y:UInt8) (a b:Bool):Int:=if y=60 then(if a=true then 7 else if b=true then 9 else 8) else if y=62 then(if b=true then 11 else 10) else if y=61 then 6 else if y=38 then 5 else if y=43 then 1 else if y=45 then 2 else if y=42 then 3 else if y=47 then 4 else 0
def gS (y:UInt8) (a b:Bool):aj:=if y=60 then(if a=true then [60,62] else if b=true then [60,61] else [60]) else if y=62 then(if b=true then [62,61] else [62]) else if y=61 then [61] else if y=38 then [38] else if y=43 then [43] else if y=45 then [45] else if y=42 then [42] else if y=47 then [47] else if y=40 then [40] else if y=41 then [41] else if y=44 then [44] else if y=58 then [58] else []
def ej (l:aj):Int:=match l with
 | []=>0
 | y :: t=>gO y (decide (t.head? = some 62)) (decide (t.head? = some 61))
def dx (k:Int):aj:=([[],[43],[45],[42],[47],[38],[61],[60,62],[60],[60,61],[62],[62,61]]:List aj).getD k.toNat []
theorem JH (y:UInt8) (t:aj):sg (y :: t)=gS y (decide (t.head? = some 62)) (decide (t.head? = some 61)):=by
 unfold sg ZP
 simp only[dn_,List.find?_nil,gY,F5]
 generalize decide (t.head? = some 62)=a
 generalize decide (t.head? = some 61)=b
 have : ∀ a b:Bool,(Option.getD (match decide (y=60) && a with | true=>some [60,62] | false=>match decide (y=60) && b with | true=>some [60,61] | false=>match decide (y=62) && b with | true=>some [62,61] | false=>match decide (y=60) with | true=>some [60] | false=>match decide (y=62) with | true=>some [62] | false=>match decide (y=61) with | true=>some [61] | false=>match decide (y=38) with | true=>some [38] | false=>match decide (y=43) with | true=>some [43] | false=>match decide (y=45) with | true=>some [45] | false=>match decide (y=42) with | true=>some [42] | false=>match decide (y=47) with | true=>some [47] | false=>match decide (y=40) with | true=>some [40] | false=>match decide (y=41) with | true=>some [41] | false=>match decide (y=44) with | true=>some [44] | false=>match decide (y=58) with | true=>some [58] | false=>none) []:aj)=gS y a b :=
  qB (p:=fun y => ∀ a b:Bool,(Option.getD (match decide (y=60) && a with | true=>some [60,62] | false=>match decide (y=60) && b with | true=>some [60,61] | false=>match decide (y=62) && b with | true=>some [62,61] | false=>match decide (y=60) with | true=>some [60] | false=>match decide (y=62) with | true=>some [62] | false=>match decide (y=61) with | true=>some [61] | false=>match decide (y=38) with | true=>some [38] | false=>match decide (y=43) with | true=>some [43] | false=>match decide (y=45) with | true=>some [45] | false=>match decide (y=42) with | true=>some [42] | false=>match decide (y=47) with | true=>some [47] | false=>match decide (y=40) with | true=>some [40] | false=>match decide (y=41) with | true=>some [41] | false=>match decide (y=44) with | true=>some [44] | false=>match decide (y=58) with | true=>some [58] | false=>none) []:aj)=gS y a b) (by decide +kernel) y
 exact this a b
theorem io {c:UInt8} (hc:c=45∨c=40∨c=41∨c=44∨c=58) (l:aj):(sg l=[c])=(l.head? = some c):=by
 apply propext
 constructor
 ·intro h
  have:=Pc l
  rw[h,F4] at this
  exact of_decide_eq_true this
 ·intro h
  cases l with
  | nil=>cases h
  | cons y t =>
   simp only[dg_,bd_] at h
   subst h
   rw[JH]
   rcases hc with rfl | rfl | rfl | rfl | rfl <;> rfl
def opS (s:aj):Int:=if dx 11=s then 11 else if dx 10=s then 10 else if dx 9=s then 9 else if dx 8=s then 8 else if dx 7=s then 7 else if dx 6=s then 6 else if dx 5=s then 5 else if dx 4=s then 4 else if dx 3=s then 3 else if dx 2=s then 2 else if dx 1=s then 1 else 0
theorem Pd (y:UInt8) : ∀ a b:Bool,opS (gS y a b)=gO y a b∧(gO y a b≠0→gS y a b=dx (gO y a b))∧0≤gO y a b∧gO y a b≤11 :=
 qB (p:=fun y => ∀ a b:Bool,opS (gS y a b)=gO y a b∧(gO y a b≠0→gS y a b=dx (gO y a b))∧0≤gO y a b∧gO y a b≤11) (by decide +kernel) y
theorem abK (l:aj):opS (sg l)=ej l:=by
 cases l with
 | nil=>decide
 | cons y t =>
  rw[JH]
  exact(Pd y _ _).1
theorem rA {l:aj} (h:ej l≠0):sg l=dx (ej l):=by
 cases l with
 | nil=>exact bh_ rfl h
 | cons y t =>
  rw[JH]
  exact(Pd y _ _).2.1 h
theorem mM (l:aj):0≤ej l∧ej l≤11:=by
 cases l with
 | nil=>decide
 | cons y t=>exact(Pd y _ _).2.2
theorem AU {k:Int} (h0:0≤k) (h1:k≤11):yD k=some ((ba (dx k),()),()):=by
 rw[TU,bO h0 (by show k < 12; omega)]
 have : ∀ k:Fin 12,aw_ ([(⟨#[]⟩:aa_),(⟨#[43]⟩:aa_),(⟨#[45]⟩:aa_),(⟨#[42]⟩:aa_),(⟨#[47]⟩:aa_),(⟨#[38]⟩:aa_),(⟨#[61]⟩:aa_),(⟨#[60,62]⟩:aa_),(⟨#[60]⟩:aa_),(⟨#[60,61]⟩:aa_),(⟨#[62]⟩:aa_),(⟨#[62,61]⟩:aa_)]:(List aa_)) k.val (⟨#[]⟩:aa_)=ba (dx (k.val:Int)):=by decide +kernel
 have h:=this ⟨k.toNat,by omega⟩
 simp only[cp_ h0] at h
 rw[h]
theorem ug {k:Int} (h0:0≤k) (h1:k≤11):lL k=some ((ba (dx k),()),()):=by
 rw[TI,bO h0 (by show k < 12; omega)]
 have : ∀ k:Fin 12,aw_ ([(⟨#[]⟩:aa_),(⟨#[43]⟩:aa_),(⟨#[45]⟩:aa_),(⟨#[42]⟩:aa_),(⟨#[47]⟩:aa_),(⟨#[38]⟩:aa_),(⟨#[61]⟩:aa_),(⟨#[60,62]⟩:aa_),(⟨#[60]⟩:aa_),(⟨#[60,61]⟩:aa_),(⟨#[62]⟩:aa_),(⟨#[62,61]⟩:aa_)]:(List aa_)) k.val (⟨#[]⟩:aa_)=ba (dx (k.val:Int)):=by decide +kernel
 have h:=this ⟨k.toNat,by omega⟩
 simp only[cp_ h0] at h
 rw[h]
theorem Lp {least deep left op k:Int} {l:aj} {b:Bool} {ns:List ab} (hl:l.length≤1000) (h0:0≤k) (h1:k≤11) :
  cJ least deep left op k (ba l) b ns=cJ least deep left (if dx k=sg (bl l) then k else op) (k+1) (ba (bl l)) b ns:=by
 rw[qw,aJ h1,Pb hl]
 simp only[ab_]
 rw[AU h0 h1]
 simp only[ab_,dK,ai_]
 rw[wr (by omega) (by omega)]
 by_cases h:sg (bl l)=dx k
 ·rw[ae_ h,ae_ h.symm]
 ·rw[ac_ h,ac_ (Ne.symm h)]
theorem vP {least deep left:Int} {l:aj} {b:Bool} {ns:List ab} (hl:l.length≤1000) :
  cJ least deep left 0 1 (ba l) b ns=cJ least deep left (ej (bl l)) 12 (ba (bl l)) b ns:=by
 have:=aV (aH l)
 have st : ∀(op k:Int),0≤k→k≤11→cJ least deep left op k (ba (bl l)) b ns=cJ least deep left (if dx k=sg (bl l) then k else op) (k+1) (ba (bl l)) b ns:=by
  intro op k h0 h1
  rw[Lp (by omega) h0 h1,dF]
 rw[Lp hl (by decide) (by decide),st _ (1+1) (by decide) (by decide),st _ (1+1+1) (by decide) (by decide),st _ (1+1+1+1) (by decide) (by decide),st _ (1+1+1+1+1) (by decide) (by decide),st _ (1+1+1+1+1+1) (by decide) (by decide),
  st _ (1+1+1+1+1+1+1) (by decide) (by decide),st _ (1+1+1+1+1+1+1+1) (by decide) (by decide),st _ (1+1+1+1+1+1+1+1+1) (by decide) (by decide),st _ (1+1+1+1+1+1+1+1+1+1) (by decide) (by decide),st _ (1+1+1+1+1+1+1+1+1+1+1) (by decide) (by decide)]
 rw[←abK (bl l)]
 rfl
def at' (s l:aj):Int:=(s.length:Int) - (l.length:Int)
theorem pe {s l:aj} (h:l <:+ s) : ∃ pre,s=pre++l∧at' s l=(pre.length:Int):=by
 obtain⟨pre,h⟩:=h
 refine⟨pre,h.symm,?_⟩
 unfold at'
 rw[←h,af_]
 omega
theorem Ib {s:aj} {b:Bool} {ns:List ab} (hs:s.length≤1000) : ∀(l:aj),l <:+ s→l6 (ba s) (at' s l) b ns=some ((),((ba s,at' s (bl l),b,ns,()),()))
 | [],h=>by
  rw[sR,aE (by rw[aK]; unfold at'; simp)]
  rfl
 | c :: l,h=>by
  obtain⟨pre,h1,h2⟩:=pe h
  have hl:pre.length < s.length:=by rw[h1]; simp
  rw[sR,h2,aJ (by rw[aK]; omega),lG h1]
  by_cases hc:c=32
  ·subst hc
   have hl':l <:+ s:=List.IsSuffix.trans (List.suffix_cons _ _) h
   rw[ae_ (by rfl),wr (by omega) (by omega)]
   have e:(pre.length:Int)+1=at' s l:=by
    rw[←h2]
    unfold at'
    rw[aj_]
    omega
   rw[e,Ib hs l hl']
   rfl
  ·have h0' : ¬((c.toNat:Int) == 32)=true:=by
    simp only[bx_]
    intro e
    apply hc
    apply UInt8.toNat_inj.1
    show c.toNat=32
    omega
   rw[ac_ h0',←h2]
   have:bl (c :: l)=c :: l:=bj_ (by simp[Dq,hc])
   rw[this]
theorem Pe {s l:aj} {b:Bool} {ns:List ab} (hs:s.length≤1000) (h:l <:+ s):kD (ba s) (at' s l) b ns=some ((),((ba s,at' s (bl l),b,ns,()),())):=by
 rw[Hw]
 exact Ib hs l h
theorem an {a b c:aj} (h:a <:+ b) (k:b <:+ c):a <:+ c:=List.IsSuffix.trans h k
theorem gk (n:Nat) (l:aj):l.drop n <:+ l:=List.drop_suffix n l
theorem jk {s l w:aj} {b:Bool} {ns:List ab} (hs:s.length≤1000) (hw:w.length≤1000) (h:l <:+ s) :
  dZ (ba w) (ba s) (at' s l) b ns=some (((!b && w.isPrefixOf (bl l)),()),((ba s,at' s (if(!b && w.isPrefixOf (bl l))=true then(bl l).drop w.length else bl l),b,ns,()),())):=by
 have hb:=an (aH l) h
 rw[QA,Pe hs h]
 simp only[ab_]
 cases b with
 | true=>rfl
 | false =>
  simp only[ak_,av_,bm_,bt_,aK]
  generalize bl l=m at hb
  obtain⟨pre,h1,h2⟩:=pe hb
  have hl:pre.length+m.length=s.length:=by rw[h1]; simp
  rw[h2,wr (by omega) (by omega)]
  by_cases hm:w.length≤m.length
  ·rw[aE (by omega),show(pre.length:Int)+(w.length:Int)=((pre.length+w.length:Nat):Int) by omega,zo (by omega) (by omega),dK]
   have e:(s.take (pre.length+w.length)).drop pre.length=m.take w.length:=by
    rw[h1,ft_,gq_]
    simp
   rw[e]
   have e2:decide (m.take w.length=w)=w.isPrefixOf m:=by
    rw[bw_,ai_,dt_,hd_]
    exact eq_comm
   rw[e2]
   cases w.isPrefixOf m with
   | true =>
    simp only[bc_,ak_,av_,ba_]
    have e5:((pre.length+w.length:Nat):Int)=at' s (m.drop w.length):=by
     unfold at'
     rw[dp_]
     omega
    rw[e5]
   | false =>
    simp only[bm_,ba_,ak_,av_]
    rw[h2]
  ·rw[aJ (by omega)]
   have e2:w.isPrefixOf m=false:=by
    rw[cf_]
    intro hp
    exact hm (D7 hp)
   rw[e2]
   simp only[ak_,av_]
   rw[h2]
theorem AV {l:aj} {b:Bool} {ns:List ab} (hl:l.length≤1000):kG (ba l) b ns=some ((ba ((bl l).takeWhile bb),()),((ba ((bl l).dropWhile bb),ns,b,()),())):=by
 have:=aV (aH l)
 obtain⟨d1,d2,d3⟩:=Dc bb (bl l)
 rw[HC,nD]
 simp only[ab_]
 rw[xK _ _ (by decide +kernel),abI]
 simp only[ab_,aK]
 rw[wr (by omega) (by omega),show((bl l).length:Int) - (((bl l).dropWhile bb).length:Int)=(((bl l).length - ((bl l).dropWhile bb).length:Nat):Int) by omega,H0 (by omega),ge (by omega),d1,d2]
theorem Lq {s pre l:aj} {w:Nat} {b:Bool} {ns:List ab} (h:s=pre++l) (hw:w≤pre.length) :
  (wh (ba s) (w:Int) (pre.length:Int) fun y6=>(some ((y6,()),((ba s,(pre.length:Int),b,ns,()),()))))=(some ((ba (pre.drop w),()),((ba s,at' s l,b,ns,()),())):Option ((aa_×Unit)×(lK×Unit))):=by
 have hl:pre.length+l.length=s.length:=by rw[h]; simp
 rw[zo hw (by omega)]
 congr 3
 ·congr 1
  rw[h,gy_ rfl]
 ·unfold at'
  congr 3
  omega
theorem Ic {s:aj} {b:Bool} {ns:List ab} (hs:s.length≤1000) {w:Nat} : ∀(l pre:aj),s=pre++l→w≤pre.length→ee (w:Int) (ba s) (pre.length:Int) b ns=some ((ba (pre.drop w++l.takeWhile bb),()),((ba s,at' s (l.dropWhile bb),b,ns,()),()))
 | [],pre,h,hw=>by
  have hl:pre.length=s.length:=by rw[h]; simp
  rw[vq,aE (by rw[aK]; omega)]
  simpa using Lq (b:=b) (ns:=ns) h hw
 | y :: l,pre,h,hw=>by
  have hl:pre.length < s.length:=by rw[h]; simp
  have ih:=Ic (b:=b) (ns:=ns) hs (w:=w) l (pre++[y]) (by rw[h]; simp) (by rw[af_]; omega)
  rw[show((pre++[y]).length:Int)=(pre.length:Int)+1 by simp,List.drop_append_of_le_length hw] at ih
  have he:=Lq (b:=b) (ns:=ns) h hw
  rw[vq,aJ (by rw[aK]; omega)]
  simp only[lG h]
  rw[wr (by omega) (by omega)]
  have h36:((y.toNat:Int) == 36)=decide (y=36):=by
   rw[bw_,bx_,ai_]
   constructor
   ·intro e
    apply UInt8.toNat_inj.1
    show y.toNat=36
    omega
   ·rintro rfl
    rfl
  rw[h36]
  cases hy:bb y with
  | true =>
   have e1:(y :: l).takeWhile bb=y :: l.takeWhile bb:=List.takeWhile_cons_of_pos hy
   have e2:(y :: l).dropWhile bb=l.dropWhile bb:=fq_ hy
   rw[e1,e2]
   have e3:pre.drop w++y :: l.takeWhile bb=pre.drop w++[y]++l.takeWhile bb:=by simp
   rw[e3,←ih]
   simp only[bb,eQ,dw,cx_,ag_,ai_] at hy
   by_cases c1:65≤y.toNat
   ·rw[aJ (by omega)]
    by_cases c2:y.toNat≤90
    ·rw[aJ (by omega)]
    ·rw[aE (by omega),aJ (by omega),aE (by omega)]
     exfalso
     rcases hy with(hy | hy) | rfl
     ·omega
     ·omega
     ·exact bh_ c1 (by decide)
   ·rw[aE (by omega)]
    by_cases c3:48≤y.toNat
    ·rw[aJ (by omega)]
     by_cases c4:y.toNat≤57
     ·rw[aJ (by omega)]
     ·rw[aE (by omega)]
      exfalso
      rcases hy with(hy | hy) | rfl
      ·omega
      ·omega
      ·exact bh_ c3 (by decide)
    ·rw[aE (by omega)]
     have:y=36:=by
      rcases hy with(hy | hy) | hy
      ·omega
      ·omega
      ·exact hy
     rw[aJ this]
  | false =>
   have e1:(y :: l).takeWhile bb=[]:=ez_ (by rw[hy]; decide)
   have e2:(y :: l).dropWhile bb=y :: l:=bj_ (by rw[hy]; decide)
   rw[e1,e2,bv_,←he]
   simp only[bb,eQ,dw,Bool.or_eq_false_iff,Bool.and_eq_false_iff,decide_eq_false_iff_not] at hy
   obtain⟨⟨k1,k2⟩,k3⟩:=hy
   by_cases c1:65≤y.toNat
   ·rw[aJ (by omega),aE (by omega),aJ (by omega),aE (by omega),aE k3]
   ·rw[aE (by omega)]
    by_cases c3:48≤y.toNat
    ·rw[aJ (by omega),aE (by omega),aE k3]
    ·rw[aE (by omega),aE k3]
theorem Gb {s l:aj} {b:Bool} {ns:List ab} (hs:s.length≤1000) (h:l <:+ s):ne (ba s) (at' s l) b ns=some ((ba (l.takeWhile bb),()),((ba s,at' s (l.dropWhile bb),b,ns,()),())):=by
 obtain⟨pre,h1,h2⟩:=pe h
 rw[Mb,h2,Ic hs l pre h1 (Nat.le_refl _)]
 simp
def cE (k:Int):Int:=if k≥6 then 1 else if k=5 then 2 else if k≥3 then 4 else 3
theorem xM (k:Int):u9 k=some ((cE k,()),()):=by
 rw[QE]
 unfold cE
 simp only[ai_,bx_]
 repeat' split
 all_goals first | rfl | omega
theorem Lr {k:Int} (h0:1≤k) (h1:k≤11):CH k=some ((cE k,()),()):=by
 rw[V9]
 unfold cE
 simp only[bx_]
 repeat' split
 all_goals first | rfl | omega
abbrev vQ:List Int:=[7,9,11,6,8,10,1,2,3,4,5]
def BG (L:Int) (m:aj) (k:Int):Bool:=decide (cE k=L) && (dx k).isPrefixOf m
theorem zx (k:Int):(dx k).length≤2:=by
 unfold dx
 have : ∀ i:Nat,(([[],[43],[45],[42],[47],[38],[61],[60,62],[60],[60,61],[62],[62,61]]:List aj).getD i []).length≤2:=by
  intro i
  by_cases hi:i < 12
  ·have h : ∀ j:Fin 12,(([[],[43],[45],[42],[47],[38],[61],[60,62],[60],[60,61],[62],[62,61]]:List aj).getD j.val []).length≤2:=by decide
   exact h ⟨i,hi⟩
  ·rw[List.getD_eq_getElem?_getD,List.getElem?_eq_none (by simp; omega)]
   simp
 exact this _
section
variable {s:aj} {ns:List ab} {L:Int}
def AW (s l l':aj) (ns:List ab):Option Int→Option ((Int×Unit)×(lK×Unit))
 | some k=>some ((k,()),((ba s,at' s ((bl l).drop (dx k).length),false,ns,()),()))
 | none=>some ((0,()),((ba s,at' s l',false,ns,()),()))
theorem abL {pre ys:List Int} {k:Int} (h:vQ=pre++k :: ys):aw_ vQ (Int.toNat (pre.length:Int)) 0=k:=by rw[h]; exact iL
theorem Ls {k:Int} (h:k∈vQ):1≤k∧k≤11:=by
 have : ∀ k∈vQ,1≤k∧k≤11:=by decide
 exact this k h
theorem Dr (hs:s.length≤1000) : ∀(ys pre:List Int) (l:aj),vQ=pre++ys→l <:+ s → ∃ l',(l'=l∨l'=bl l)∧mB L (pre.length:Int) (ba s) (at' s l) false vQ ns=AW s l l' ns (ys.find? (BG L (bl l)))
 | [],pre,l,h,hl=>by
  refine⟨l,.inl rfl,?_⟩
  rw[wN,aE (br h)]
  rfl
 | k :: ys,pre,l,h,hl=>by
  have hk:=Ls (k:=k) (by rw[h]; simp)
  rw[wN,aJ (bF h),gH h,abL h,xM]
  simp only[ab_,dn_,bx_]
  by_cases hL:cE k=L
  ·rw[ae_ hL,gH h,ug (by omega) (by omega)]
   simp only[ab_]
   have:=zx k
   rw[jk hs (by omega) hl]
   simp only[ab_,bm_,bt_]
   cases hp:(dx k).isPrefixOf (bl l) with
   | true =>
    simp only[ba_,BG,hL,ck_,bt_,hp]
    rw[gH h]
    exact⟨l,.inl rfl,rfl⟩
   | false =>
    simp only[ak_,av_,BG,hL,ck_,bt_,hp]
    rw[aM h (by decide)]
    obtain⟨l',h1,h2⟩:=Dr hs ys (pre++[k]) (bl l) (aC h) (an (aH l) hl)
    rw[dF] at h1 h2
    refine⟨l',.inr (by simpa using h1),?_⟩
    rw[h2]
    unfold AW
    rw[dF]
  ·rw[ac_ hL,aM h (by decide)]
   obtain⟨l',h1,h2⟩:=Dr hs ys (pre++[k]) l (aC h) hl
   refine⟨l',h1,?_⟩
   rw[h2]
   simp[BG,hL]
theorem Pf (hs:s.length≤1000) : ∀(ys pre:List Int) (l:aj),vQ=pre++ys→l <:+ s → ∃ l',(l'=l∨l'=bl l)∧sq L (pre.length:Int) (ba s) (at' s l) false ns vQ=AW s l l' ns (ys.find? (BG L (bl l)))
 | [],pre,l,h,hl=>by
  refine⟨l,.inl rfl,?_⟩
  rw[yV,aE (br h)]
  rfl
 | k :: ys,pre,l,h,hl=>by
  have hk:=Ls (k:=k) (by rw[h]; simp)
  rw[yV,aJ (bF h),gH h,abL h,xM]
  simp only[ab_,dn_,bx_]
  by_cases hL:cE k=L
  ·rw[ae_ hL,gH h,ug (by omega) (by omega)]
   simp only[ab_]
   have:=zx k
   rw[jk hs (by omega) hl]
   simp only[ab_,bm_,bt_]
   cases hp:(dx k).isPrefixOf (bl l) with
   | true =>
    simp only[ba_,BG,hL,ck_,bt_,hp]
    rw[gH h]
    exact⟨l,.inl rfl,rfl⟩
   | false =>
    simp only[ak_,av_,BG,hL,ck_,bt_,hp]
    rw[aM h (by decide)]
    obtain⟨l',h1,h2⟩:=Dr (L:=L) (ns:=ns) hs ys (pre++[k]) (bl l) (aC h) (an (aH l) hl)
    rw[dF] at h1 h2
    refine⟨l',.inr (by simpa using h1),?_⟩
    rw[h2]
    unfold AW
    rw[dF]
  ·rw[ac_ hL,aM h (by decide)]
   obtain⟨l',h1,h2⟩:=Pf hs ys (pre++[k]) l (aC h) hl
   refine⟨l',h1,?_⟩
   rw[h2]
   simp[BG,hL]
end
theorem Ie {α:Type} {p q:α→Bool} : ∀ {l:List α},(∀ x∈l,p x=q x)→l.find? p=l.find? q
 | [],_=>rfl
 | x :: l,h=>by
  rw[dn_,dn_,h x (by simp),Ie (fun y hy=>h y (List.mem_cons_of_mem _ hy))]
def pS (k:Int) (y:UInt8) (a b:Bool):Bool:=if k=7 then decide (y=60) && a else if k=9 then decide (y=60) && b else if k=11 then decide (y=62) && b else if k=6 then decide (y=61) else if k=8 then decide (y=60) else if k=10 then decide (y=62) else if k=1 then decide (y=43) else if k=2 then decide (y=45) else if k=3 then decide (y=42) else if k=4 then decide (y=47) else decide (y=38)
theorem acu (y:UInt8) (t:aj) : ∀ k∈vQ,(dx k).isPrefixOf (y :: t)=pS k y (decide (t.head? = some 62)) (decide (t.head? = some 61)):=by
 intro k hk
 have:k=7∨k=9∨k=11∨k=6∨k=8∨k=10∨k=1∨k=2∨k=3∨k=4∨k=5:=by simpa using hk
 rcases this with rfl | rfl | rfl | rfl | rfl | rfl | rfl | rfl | rfl | rfl | rfl
 ·exact F5 y t 60 62
 ·exact F5 y t 60 61
 ·exact F5 y t 62 61
 ·exact gY y t 61
 ·exact gY y t 60
 ·exact gY y t 62
 ·exact gY y t 43
 ·exact gY y t 45
 ·exact gY y t 42
 ·exact gY y t 47
 ·exact gY y t 38
def fS (L:Int) (y:UInt8) (a b:Bool):Prop:=vQ.find? (fun k=>decide (cE k=L) && pS k y a b)=if gO y a b≠0∧cE (gO y a b)=L then some (gO y a b) else none
instance (L:Int) (y:UInt8) (a b:Bool):Decidable (fS L y a b):=by unfold fS; infer_instance
theorem abM (y:UInt8) : ∀ a b:Bool,fS 1 y a b∧fS 2 y a b∧fS 3 y a b∧fS 4 y a b :=
 qB (p:=fun y => ∀ a b:Bool,fS 1 y a b∧fS 2 y a b∧fS 3 y a b∧fS 4 y a b) (by decide +kernel) y
theorem YM {L:Int} (hL:L=1∨L=2∨L=3∨L=4) (m:aj):vQ.find? (BG L m)=if ej m≠0∧cE (ej m)=L then some (ej m) else none:=by
 cases m with
 | nil =>
  have : ∀ k∈vQ,(dx k).isPrefixOf ([]:aj)=false:=by decide
  have h0:ej ([]:aj)=0:=rfl
  rw[h0,ac_ (by simp),List.find?_eq_none]
  intro k hk
  unfold BG
  rw[this k hk,Bool.and_false]
  decide
 | cons y t =>
  have e:vQ.find? (BG L (y :: t))=vQ.find? (fun k=>decide (cE k=L) && pS k y (decide (t.head? = some 62)) (decide (t.head? = some 61))):=Ie fun k hk=>by
   unfold BG
   rw[acu y t k hk]
  rw[e]
  obtain⟨h1,h2,h3,h4⟩:=abM y (decide (t.head? = some 62)) (decide (t.head? = some 61))
  rcases hL with rfl | rfl | rfl | rfl
  ·exact h1
  ·exact h2
  ·exact h3
  ·exact h4
theorem abN {s l:aj} {ns:List ab} {L:Int} (hs:s.length≤1000) (hL:L=1∨L=2∨L=3∨L=4) (h:l <:+ s) :
  ∃ l',(l'=l∨l'=bl l)∧FJ L (ba s) (at' s l) false ns=AW s l l' ns (if ej (bl l)≠0∧cE (ej (bl l))=L then some (ej (bl l)) else none):=by
 rw[QF,←YM hL]
 exact Pf hs vQ [] l rfl h
theorem zy {x:ab} {l:aj} {b:Bool} {ns:List ab} (hn:ns.length≤60) :
  ∃ i,aU x (ba l) b ns=some ((i,()),((ba l,(if b=false∧ns.length < 60 then ns++[x] else ns),(b || decide (60≤ns.length)),()),()))∧(b=false→ns.length < 60→i=(ns.length:Int)):=by
 rw[Ju]
 cases b with
 | true=>exact⟨_,rfl,fun h=>by cases h⟩
 | false =>
  simp only[ak_,av_,true_and,cz_]
  by_cases h:ns.length < 60
  ·have e1:decide ((ns.length:Int)≥60)=false:=bf_ (by omega)
   have e2:decide (60≤ns.length)=false:=bf_ (by omega)
   rw[e1,e2,ae_ h]
   simp only[bm_,ba_]
   have hl:(ns++[x]).length=ns.length+1:=by simp
   rw[bi (by simp only[ad_]; omega),wr (by omega) (by omega)]
   exact⟨_,rfl,fun _ _=>by omega⟩
  ·have e1:decide ((ns.length:Int)≥60)=true:=bb_ (by omega)
   have e2:decide (60≤ns.length)=true:=bb_ (by omega)
   rw[e1,e2,ac_ h]
   exact⟨_,rfl,fun _ h'=>bh_ h' h⟩
theorem JI {x:ab} {s:aj} {a:Int} {b:Bool} {ns:List ab} (hn:ns.length≤1000) (hx:x.2.2.1.2.2.1.size≤9223372036854775807) :
  cx x (ba s) a b ns=some (((ns.length:Int),()),((ba s,a,(b || decide (60≤ns.length) || !dj x),ns++[x],()),())):=by
 rw[Of,bi (by simp only[ad_]; omega)]
 have e:IntKind.i64.wrap (((ns++[x]).length:Int) - 1)=(ns.length:Int):=by
  rw[af_,ad_,wr (by omega) (by omega)]
  omega
 rw[e,C8 hx]
 simp only[ab_]
 by_cases h:60≤ns.length
 ·rw[aJ (by rw[af_,ad_]; omega)]
  simp[h]
 ·rw[aE (by rw[af_,ad_]; omega)]
  cases dj x <;> simp[h]
theorem JJ (c:UInt8) (t:aj) : ∀ pre:aj,c ∉ pre→Lib.indexByte (pre++c :: t) c=(pre.length:Int)
 | [],_=>by simp[Lib.indexByte]
 | b :: pre,h=>by
  simp only[bi_,not_or] at h
  have hb : ¬b=c:=fun e=>h.1 e.symm
  have ih:=JJ c t pre h.2
  simp only[cs_,Lib.indexByte,ih]
  have : ¬((pre.length:Int) = -1):=by omega
  simp[hb,this]
theorem Pg (c:UInt8) : ∀ pre:aj,c ∉ pre→Lib.indexByte pre c = -1
 | [],_=>rfl
 | b :: pre,h=>by
  simp only[bi_,not_or] at h
  have hb : ¬b=c:=fun e=>h.1 e.symm
  simp only[Lib.indexByte,Pg c pre h.2]
  simp[hb]
theorem aaz {c:UInt8} {pre t:aj} (h:c ∉ pre):Lib.cut (pre++c :: t) [c]=(pre,t,true):=by
 unfold Lib.cut
 rw[Lib.index_one,JJ c t pre h,ae_ (by omega)]
 simp only[Int.toNat_natCast,ad_,Prod.mk.injEq,and_true]
 refine⟨gy_ rfl,?_⟩
 have:pre++c :: t=(pre++[c])++t:=by simp
 rw[this,List.drop_left' (by simp)]
theorem YN {c:UInt8} {s:aj} (h:c ∉ s):Lib.cut s [c]=(s,[],false):=by
 unfold Lib.cut
 rw[Lib.index_one,Pg c s h,ac_ (by omega)]
theorem aaA {x c:aj} (hx:x.length < 4294967281):strings_Cut (ba x) (ba c)=some ((ba (Lib.cut x c).1,ba (Lib.cut x c).2.1,(Lib.cut x c).2.2,()),()):=by
 rw[Jv]
 show(if(ba x).size < 4294967281 then some (((⟨(Lib.cut (lb (ba x)) (lb (ba c))).1.toArray⟩:aa_),(⟨(Lib.cut (lb (ba x)) (lb (ba c))).2.1.toArray⟩:aa_),(Lib.cut (lb (ba x)) (lb (ba c))).2.2,()),()) else none)=_
 rw[ae_ (by rw[aK]; exact hx),dl,dl]
theorem Gc (c:UInt8) : ∀ s:aj,c∈s → ∃ pre t,s=pre++c :: t∧c ∉ pre
 | b :: s,h=>by
  by_cases hb:b=c
  ·exact⟨[],s,by rw[hb]; rfl,by simp⟩
  ·obtain⟨pre,t,h1,h2⟩:=Gc c s (by rcases bi_.1 h with e | e; exact bh_ e.symm hb; exact e)
   exact⟨b :: pre,t,by rw[h1]; rfl,by simp only[bi_,not_or]; exact⟨Ne.symm hb,h2⟩⟩
def qt:aj→Option (aj×aj)
 | []=>none
 | c :: l=>if c=34 then(match l with
   | []=>some ([],[])
   | d :: l'=>if d=34 then(qt l').map (fun p=>(34 :: p.1,p.2)) else some ([],d :: l'))
  else(qt l).map fun p=>(c :: p.1,p.2)
theorem AX {c:UInt8} {l:aj} (h:c≠34):qt (c :: l)=(qt l).map fun p=>(c :: p.1,p.2):=by
 rw[qt.eq_def]
 simp only[ac_ h]
theorem Ig:qt [34]=some ([],[]):=by
 rw[qt.eq_def]
 rfl
theorem Ih {l:aj}:qt (34 :: 34 :: l)=(qt l).map fun p=>(34 :: p.1,p.2):=by
 rw[qt.eq_def]
 rfl
theorem D8 {d:UInt8} {l:aj} (h:d≠34):qt (34 :: d :: l)=some ([],d :: l):=by
 rw[qt.eq_def]
 simp only[ba_,ac_ h]
theorem Ph (l:aj) : ∀ pre:aj,(34:UInt8) ∉ pre→qt (pre++l)=(qt l).map fun p=>(pre++p.1,p.2)
 | [],_=>by simp
 | b :: pre,h=>by
  simp only[bi_,not_or] at h
  have hb : ¬b=34:=fun e=>h.1 e.symm
  rw[cs_,AX hb,Ph l pre h.2,Option.map_map]
  rfl
theorem aaB {s:aj} (h:(34:UInt8) ∉ s):qt s=none:=by
 have:=Ph [] s h
 rw[bv_] at this
 rw[this]
 rfl
theorem WG : ∀(l t r:aj),qt l=some (t,r)→r <:+ l∧t.length≤l.length∧r.length < l.length:=by
 intro l
 induction hn:l.length using Nat.strongRecOn generalizing l with
 | ind n ih =>
  intro t r h
  subst hn
  cases l with
  | nil=>cases h
  | cons c l =>
   by_cases hc:c=34
   ·subst hc
    cases l with
    | nil =>
     rw[Ig] at h
     cases h
     exact⟨⟨[34],rfl⟩,by simp,by simp⟩
    | cons d l' =>
     by_cases hd:d=34
     ·subst hd
      rw[Ih,dh_] at h
      obtain⟨⟨t',r'⟩,h1,h2⟩:=h
      cases h2
      obtain⟨k1,k2,k3⟩:=ih l'.length (by simp only[aj_]; omega) l' rfl t' r' h1
      refine⟨an k1 ⟨[34,34],rfl⟩,?_,?_⟩
      ·simp only[aj_]; omega
      ·simp only[aj_]; omega
     ·rw[D8 hd] at h
      cases h
      exact⟨⟨[34],rfl⟩,by simp,by simp⟩
   ·rw[AX hc,dh_] at h
    obtain⟨⟨t',r'⟩,h1,h2⟩:=h
    cases h2
    obtain⟨k1,k2,k3⟩:=ih l.length (by simp) l rfl t' r' h1
    refine⟨an k1 ⟨[c],rfl⟩,?_,?_⟩
    ·simp only[aj_]; omega
    ·simp only[aj_]; omega
abbrev nC (v:ac):ab:=(1,0,v,((0,0,()),false,false,()),((0,0,()),false,false,()),([]:(List Int)),())
noncomputable def iQ (out:aj) (r:aa_) (b:Bool) (ns:List ab):Option (aj×aj)→Option ((Int×Unit)×(ri×Unit))
 | none=>some ((-1,()),((r,ns,true,()),()))
 | some p=>ca (2,0,ba (out++p.1),()) (ba p.2) b ns
theorem D9 {F:Option ((Int×Unit)×(ri×Unit))}:(F.bind fun z3=>(some ((z3.1.1,()),(z3.2.1,()))))=F:=by
 cases F with
 | none=>rfl
 | some z=>rfl
theorem ii {F:Option ((Int×Unit)×(lK×Unit))}:(F.bind fun z3=>(some ((z3.1.1,()),(z3.2.1,()))))=F:=by
 cases F with
 | none=>rfl
 | some z=>rfl
theorem Pi {r:aa_} {b:Bool} {ns:List ab} : ∀(x out:aj),out.length+x.length≤1000→kw (ba out) (ba x) r b ns=iQ out r b ns (qt x):=by
 intro x
 induction hn:x.length using Nat.strongRecOn generalizing x with
 | ind n ih =>
  intro out hl
  rw[AG,show(⟨#[34]⟩:aa_)=ba [34] from rfl,aaA (by omega)]
  simp only[ab_]
  by_cases hm:(34:UInt8)∈x
  ·obtain⟨pre,t,h1,h2⟩:=Gc 34 x hm
   have hx:x.length=pre.length+t.length+1:=by rw[h1]; simp; omega
   rw[h1,aaz h2,Ph _ pre h2]
   simp only[bc_,ak_,av_]
   rw[bT (by omega),sY t [34] (by omega)]
   simp only[ab_,D9]
   cases t with
   | nil =>
    rw[Ig,show([34]:aj).isPrefixOf ([]:aj)=false from rfl]
    simp[iQ]
   | cons d l' =>
    by_cases hd:d=34
    ·subst hd
     rw[aj_] at hx
     have e1:([34]:aj).isPrefixOf (34 :: l')=true:=by rw[gY]; rfl
     rw[e1]
     simp only[bc_,ak_,av_]
     rw[bT (by simp only[af_,ad_]; omega),show(1:Int)=((1:Nat):Int) from rfl,ge (by simp)]
     simp only[bu_,cu_]
     rw[ih l'.length (by omega) l' rfl (out++pre++[34]) (by simp only[af_,ad_]; omega)]
     rw[Ih]
     cases qt l' with
     | none=>rfl
     | some p=>simp[iQ]
    ·have e1:([34]:aj).isPrefixOf (d :: l')=false:=by rw[gY]; simp[hd]
     rw[e1]
     simp only[bm_,ba_]
     rw[D8 hd]
     simp[iQ]
  ·rw[YN hm,aaB hm]
   rfl
theorem AY {l:aj} {b:Bool} {ns:List ab} (hl:l.length≤900):kF (ba (34 :: l)) b ns=iQ [] (ba (34 :: l)) b ns (qt l):=by
 rw[Ep,show(1:Int)=((1:Nat):Int) from rfl,ge (by simp)]
 exact Pi l [] (by simp; omega)
noncomputable def sQ (acc s:aj) (b:Bool) (ns:List ab):Option (aj×aj)→Option ((Int×Unit)×(lK×Unit))
 | none=>some ((0,()),((ba s,at' s [],true,ns,()),()))
 | some p=>cx (nC (2,0,ba (acc++p.1),())) (ba s) (at' s p.2) b ns
theorem UG {s:aj} {b:Bool} {ns:List ab} (hs:s.length≤900) : ∀(l acc:aj),l <:+ s→acc.length+l.length≤1000→lx (ba acc) (ba s) (at' s l) b ns=sQ acc s b ns (qt l):=by
 intro l
 induction hn:l.length using Nat.strongRecOn generalizing l with
 | ind n ih =>
  intro acc h ha
  subst hn
  rw[FX]
  cases l with
  | nil =>
   rw[aE (by rw[aK]; unfold at'; simp)]
   rfl
  | cons c l =>
   obtain⟨pre,h1,h2⟩:=pe h
   have hl:pre.length+l.length+1=s.length:=by rw[h1]; simp; omega
   rw[aj_] at ha
   have h':l <:+ s:=an ⟨[c],rfl⟩ h
   have e1:(pre.length:Int)+1=at' s l:=by
    unfold at'
    omega
   rw[h2,aJ (by rw[aK]; omega),lG h1,wr (by omega) (by omega)]
   by_cases hc:c=34
   ·subst hc
    have e34:(((34:UInt8).toNat:Int) != 34)=false:=rfl
    rw[e34,e1]
    simp only[ak_,av_,ii]
    cases l with
    | nil =>
     rw[Ig,aJ (by rw[aK]; unfold at'; simp)]
     simp[sQ]
    | cons d l' =>
     obtain⟨F5,k1,k2⟩:=pe h'
     have hl2:F5.length+l'.length+1=s.length:=by rw[k1]; simp; omega
     rw[aj_] at ha
     have h'':l' <:+ s:=an ⟨[d],rfl⟩ h'
     have e2:(F5.length:Int)+1=at' s l':=by
      unfold at'
      omega
     rw[k2,aE (by rw[aK]; omega),lG k1]
     by_cases hd:d=34
     ·subst hd
      rw[e34,Ih]
      simp only[ak_,av_]
      rw[show(⟨#[34]⟩:aa_)=ba [34] from rfl,bT (by simp only[ad_]; omega),wr (by omega) (by omega),e2,ih l'.length (by simp only[aj_]; omega) l' rfl (acc++[34]) h'' (by simp only[af_,ad_]; omega)]
      cases qt l' with
      | none=>rfl
      | some p=>simp[sQ]
     ·have hd':((d.toNat:Int) != 34)=true:=by
       simp only[bne_iff_ne,ne_eq]
       intro e
       apply hd
       apply UInt8.toNat_inj.1
       show d.toNat=34
       omega
      rw[hd',D8 hd]
      simp only[ba_]
      rw[←k2]
      simp[sQ]
   ·have hc':((c.toNat:Int) != 34)=true:=by
     simp only[bne_iff_ne,ne_eq]
     intro e
     apply hc
     apply UInt8.toNat_inj.1
     show c.toNat=34
     omega
    rw[hc']
    simp only[ba_]
    rw[show(pre.length:Int)+1=((pre.length+1:Nat):Int) by omega,zo (by omega) (by omega)]
    have e3:(s.take (pre.length+1)).drop pre.length=[c]:=by
     rw[h1,ft_,gq_]
     simp
    rw[e3,bT (by simp only[ad_]; omega),show((pre.length+1:Nat):Int)=at' s l by omega,ih l.length (by simp) l rfl (acc++[c]) h' (by simp only[af_,ad_]; omega)]
    rw[AX hc]
    cases qt l with
    | none=>rfl
    | some p=>simp[sQ]
theorem YO {s l:aj} {b:Bool} {ns:List ab} (hs:s.length≤900) (h:l <:+ s):Aj (ba s) (at' s l) b ns=sQ [] s b ns (qt l):=by
 rw[Ma]
 have:=aV h
 exact UG hs l [] h (by simp; omega)
def dC (n:Int):aj:=(lb (cX n)).drop 1
abbrev qH:List Int:=[1,2,3,4,5]
def gZ (l:aj) (n:Int):Bool:=(dC n).isPrefixOf l
theorem WH {pre ys:List Int} {k:Int} (h:qH=pre++k :: ys):k=(pre.length:Int)+1∧1≤k∧k≤5∧cX k=ba (35 :: dC k)∧(dC k).length≤10:=by
 have h1:qH[pre.length]? = some k:=by rw[h]; simp
 have hl:pre.length < 5:=by
  have:(qH).length=5:=rfl
  have h2:=congrArg am_ h
  simp at h2
  omega
 have : ∀ i:Fin 5,∀ k,qH[i.val]? = some k→k=(i.val:Int)+1:=by
  intro i k h
  have : ∀ i:Fin 5,qH[i.val]? = some ((i.val:Int)+1):=by decide
  rw[this i] at h
  exact(ch_ h).symm
 have e:=this ⟨pre.length,hl⟩ k h1
 simp only at e
 have f : ∀ i:Fin 5,cX ((i.val:Int)+1)=ba (35 :: dC ((i.val:Int)+1))∧(dC ((i.val:Int)+1)).length≤10:=by decide +kernel
 have:=f ⟨pre.length,hl⟩
 simp only at this
 rw[←e] at this
 exact⟨e,by omega,by omega,this.1,this.2⟩
theorem Lt {deep:Int} {l:aj} {b:Bool} {ns:List ab} (hl:l.length≤900) : ∀(ys pre:List Int),qH=pre++ys→dU deep ((pre.length:Int)+1) (ba (35 :: l)) b ns=match ys.find? (gZ l) with
  | some n=>ca (vE n) (ba (l.drop (dC n).length)) b ns
  | none=>dU deep 6 (ba (35 :: l)) b ns
 | [],pre,h=>by
  have:pre.length=5:=by
   rw[bv_] at h
   rw[←h]
   rfl
  rw[this]
  rfl
 | k :: ys,pre,h=>by
  obtain⟨e1,e2,e3,e4,e5⟩:=WH h
  rw[←e1,sT,aJ e3,oE (by omega) e3]
  simp only[ab_]
  rw[e4,sZ _ _ (by rw[aj_]; omega)]
  simp only[ab_,dn_]
  have e6:(35 :: dC k:aj).isPrefixOf (35 :: l)=gZ l k:=by simp[gZ]
  rw[e6]
  cases hp:gZ l k with
  | true =>
   simp only[ba_,gJ,ab_,D9,aj_,bu_]
  | false =>
   simp only[ak_,av_]
   rw[wr (by omega) (by omega)]
   have:=Lt (deep:=deep) (b:=b) (ns:=ns) hl ys (pre++[k]) (aC h)
   rw[af_,ad_] at this
   rw[show k+1=((pre.length+1:Nat):Int)+1 by omega]
   exact this
theorem Lu {s l:aj} {b:Bool} {ns:List ab} (hs:s.length≤900) (hl:l <:+ s) : ∀(ys pre:List Int),qH=pre++ys→jG ((pre.length:Int)+1) (ba s) (at' s l) b ns=match ys.find? (gZ l) with
  | some n=>cx (nC (vE n)) (ba s) (at' s (l.drop (dC n).length)) b ns
  | none=>some ((0,()),((ba s,at' s l,true,ns,()),()))
 | [],pre,h=>by
  have:pre.length=5:=by
   rw[bv_] at h
   rw[←h]
   rfl
  rw[this,vt,aE (by decide)]
  rfl
 | k :: ys,pre,h=>by
  obtain⟨e1,e2,e3,e4,e5⟩:=WH h
  obtain⟨q,h1,h2⟩:=pe hl
  have hq:q.length+l.length=s.length:=by rw[h1]; simp
  rw[←e1,vt,aJ e3,ua (by omega) e3]
  simp only[ab_]
  rw[e4,show(1:Int)=((1:Nat):Int) from rfl,ge (by simp)]
  simp only[bu_,cu_,aK,dn_]
  have ih:=Lu (b:=b) (ns:=ns) hs hl ys (pre++[k]) (aC h)
  rw[af_,ad_,show((pre.length+1:Nat):Int)+1=k+1 by omega] at ih
  have hw:IntKind.i64.wrap (k+((1:Nat):Int))=k+1:=wr (by omega) (by omega)
  rw[hw,h2,wr (by omega) (by omega)]
  by_cases hm:(dC k).length≤l.length
  ·rw[aJ (by omega),show(q.length:Int)+((dC k).length:Int)=((q.length+(dC k).length:Nat):Int) by omega,zo (by omega) (by omega),dK]
   have e:(s.take (q.length+(dC k).length)).drop q.length=l.take (dC k).length:=by
    rw[h1,ft_,gq_]
    simp
   have e7:decide (l.take (dC k).length=dC k)=gZ l k:=by
    unfold gZ
    rw[bw_,ai_,dt_,hd_]
    exact eq_comm
   rw[e,e7]
   cases hp:gZ l k with
   | true =>
    simp only[ba_,dQ,ab_,ii]
    congr 1
    unfold at'
    rw[dp_]
    omega
   | false =>
    simp only[ak_,av_]
    rw[←h2]
    exact ih
  ·rw[aE (by omega)]
   have hp:gZ l k=false:=by
    rw[cf_]
    intro hp
    exact hm (D7 hp)
   rw[hp,←h2]
   exact ih
def dL (k:Int):aj:=([[],[83,85,77],[77,73,78],[77,65,88],[67,79,85,78,84],[73,70],[65,78,68],[79,82],[78,79,84],[65,66,83],[76,69,78]]:List aj).getD k.toNat []
abbrev mN:List Int:=[1,2,3,4,5,6,7,8,9,10]
theorem WI (k:Fin 11):aw_ ([(⟨#[]⟩:aa_),(⟨#[83,85,77]⟩:aa_),(⟨#[77,73,78]⟩:aa_),(⟨#[77,65,88]⟩:aa_),(⟨#[67,79,85,78,84]⟩:aa_),(⟨#[73,70]⟩:aa_),(⟨#[65,78,68]⟩:aa_),(⟨#[79,82]⟩:aa_),(⟨#[78,79,84]⟩:aa_),(⟨#[65,66,83]⟩:aa_),(⟨#[76,69,78]⟩:aa_)]:(List aa_)) k.val (⟨#[]⟩:aa_)=ba (dL (k.val:Int)):=by
 revert k
 decide +kernel
theorem Pj {k:Int} (h0:0≤k) (h1:k≤10):MG k=some ((ba (dL k),()),()):=by
 rw[Ym,bO h0 (by show k < 11; omega)]
 have h:=WI ⟨k.toNat,by omega⟩
 simp only[cp_ h0] at h
 rw[h]
theorem Ii {k:Int} (h0:0≤k) (h1:k≤10):DW k=some ((ba (dL k),()),()):=by
 rw[TT,bO h0 (by show k < 11; omega)]
 have h:=WI ⟨k.toNat,by omega⟩
 simp only[cp_ h0] at h
 rw[h]
theorem WJ {pre ys:List Int} {k:Int} (h:mN=pre++k :: ys):k=(pre.length:Int)+1∧1≤k∧k≤10:=by
 have h1:mN[pre.length]? = some k:=by rw[h]; simp
 have hl:pre.length < 10:=by
  have h2:=congrArg am_ h
  simp at h2
  omega
 have : ∀ i:Fin 10,mN[i.val]? = some ((i.val:Int)+1):=by decide
 rw[this ⟨pre.length,hl⟩] at h1
 have e:=(ch_ h1).symm
 simp only at e
 exact⟨e,by omega,by omega⟩
theorem Pk {deep:Int} {w l:aj} {b:Bool} {ns:List ab} : ∀(ys pre:List Int),mN=pre++ys→d8 deep (ba w) ((pre.length:Int)+1) (ba l) b ns=match ys.find? (fun k=>decide (dL k=w)) with
  | some k=>gB k deep (ba l) b ns
  | none=>some ((-1,()),((ba l,ns,true,()),()))
 | [],pre,h=>by
  have:pre.length=10:=by
   rw[bv_] at h
   rw[←h]
   rfl
  rw[this,qR,aE (by decide)]
  rfl
 | k :: ys,pre,h=>by
  obtain⟨e1,e2,e3⟩:=WJ h
  rw[←e1,qR,aJ e3,Ii (by omega) e3]
  simp only[ab_,dK,dn_,D9]
  by_cases hp:dL k=w
  ·rw[aJ hp.symm]
   simp[hp]
  ·rw[aE (Ne.symm hp),wr (by omega) (by omega)]
   have:=Pk (deep:=deep) (w:=w) (l:=l) (b:=b) (ns:=ns) ys (pre++[k]) (aC h)
   rw[af_,ad_,show((pre.length+1:Nat):Int)+1=k+1 by omega] at this
   rw[this]
   simp[hp]
noncomputable def rB (w s:aj) (a:Int) (b:Bool) (ns:List ab):Option ((Int×Unit)×(lK×Unit)) :=
 if(bo w).2=true∧w≠[] then cx (nC (bo w).1) (ba s) a b ns
 else if(cU w).2=true then cx (2,0,(0,0,(⟨#[]⟩:aa_),()),(cU w).1,((0,0,()),false,false,()),([]:(List Int)),()) (ba s) a b ns
 else some ((0,()),((ba s,a,true,ns,()),()))
theorem UH {w s:aj} {a:Int} {b:Bool} {ns:List ab} (hw:w.length≤1000):fU (ba w) 11 (ba s) a b ns=rB w s a b ns:=by
 rw[vu,aE (by decide),oJ (by omega),tA (by omega)]
 simp only[ab_,ii]
 have e0:(ah_ (ba w) == ah_ (⟨#[]⟩:aa_))=decide (w=[]):=dK (b:=[])
 rw[e0]
 unfold rB
 cases (bo w).2 <;> by_cases hw0:w=[] <;> cases (cU w).2 <;> simp[hw0]
theorem Pl {w s:aj} {ns:List ab} (hw:w.length≤1000) (hs:s.length≤900) : ∀(ys pre:List Int) (l:aj),mN=pre++ys→l <:+ s → ∃ l',(l'=l∨l'=bl l)∧fU (ba w) ((pre.length:Int)+1) (ba s) (at' s l) false ns=match ys.find? (fun k=>decide (dL k=w) && ([40]:aj).isPrefixOf (bl l)) with
  | some k=>Ak k (ba s) (at' s ((bl l).drop 1)) false ns
  | none=>rB w s (at' s l') false ns
 | [],pre,l,h,hl=>by
  have:pre.length=10:=by
   rw[bv_] at h
   rw[←h]
   rfl
  refine⟨l,.inl rfl,?_⟩
  rw[this]
  exact UH hw
 | k :: ys,pre,l,h,hl=>by
  obtain⟨e1,e2,e3⟩:=WJ h
  have ih:=fun l' (hl':l' <:+ s)=>Pl (ns:=ns) hw hs ys (pre++[k]) l' (aC h) hl'
  rw[af_,ad_,show((pre.length+1:Nat):Int)+1=k+1 by omega] at ih
  rw[←e1,vu,aJ e3,Pj (by omega) e3]
  simp only[ab_,dK,dn_,ii]
  by_cases hp:dL k=w
  ·rw[aJ hp,show(⟨#[40]⟩:aa_)=ba [40] from rfl,jk (by omega) (by decide) hl]
   simp only[ab_,bm_,bt_,hp,ck_]
   cases hq:([40]:aj).isPrefixOf (bl l) with
   | true=>exact⟨l,.inl rfl,rfl⟩
   | false =>
    simp only[ak_,av_]
    rw[wr (by omega) (by omega)]
    obtain⟨l',h1,h2⟩:=ih (bl l) (an (aH l) hl)
    rw[dF] at h1 h2
    refine⟨l',.inr (by simpa using h1),?_⟩
    rw[h2,hq]
  ·rw[aE hp,wr (by omega) (by omega)]
   obtain⟨l',h1,h2⟩:=ih l hl
   refine⟨l',h1,?_⟩
   rw[h2]
   simp[hp]
theorem mO (p:UInt8→Bool) (l:aj):(l.takeWhile p).length≤l.length:=(List.takeWhile_prefix p).length_le
abbrev nP (p:bX):ab:=(2,0,(0,0,(⟨#[]⟩:aa_),()),p,((0,0,()),false,false,()),([]:(List Int)),())
abbrev nA (p q:bX):ab:=(3,0,(0,0,(⟨#[]⟩:aa_),()),p,q,([]:(List Int)),())
noncomputable def fe (deep:Int) (w r:aj) (b:Bool) (ns:List ab):Option ((Int×Unit)×(ri×Unit)) :=
 if(bo w).2=true∧((bo w).1.1=1∨(bo w).1.1=3) then ca (bo w).1 (ba r) b ns
 else if(cU w).2=true then aU (nP (cU w).1) (ba r) b ns
 else match mN.find? (fun k=>decide (dL k=w)) with
  | some k=>gB k deep (ba r) b ns
  | none=>some ((-1,()),((ba r,ns,true,()),()))
theorem gM {F:Option ((Int×Unit)×(ri×Unit))}:(F.bind fun z3=>(some ((z3.1.1,()),(z3.2.1,()))))=F:=D9
theorem WK {deep:Int} {w l:aj} {b:Bool} {ns:List ab}:d8 deep (ba w) 1 (ba l) b ns=match mN.find? (fun k=>decide (dL k=w)) with
  | some k=>gB k deep (ba l) b ns
  | none=>some ((-1,()),((ba l,ns,true,()),())):=Pk mN [] rfl
theorem acv {deep:Int} {l:aj} {b:Bool} {ns:List ab} (hl:l.length≤900):dU deep 6 (ba l) b ns=fe deep ((bl l).takeWhile bb) ((bl l).dropWhile bb) b ns:=by
 have h1:=aV (aH l)
 have h2:((bl l).takeWhile bb).length≤(bl l).length:=mO bb (bl l)
 rw[sT,aE (by decide),AV (by omega)]
 simp only[ab_]
 rw[oK (by omega),oI (by omega)]
 simp only[ab_,gM,WK]
 unfold fe
 cases (bo ((bl l).takeWhile bb)).2 with
 | false=>simp
 | true =>
  by_cases k1:(bo ((bl l).takeWhile bb)).1.1=1
  ·simp[k1]
  ·by_cases k3:(bo ((bl l).takeWhile bb)).1.1=3
   ·simp[k3]
   ·simp[k1,k3]
theorem rC {deep:Int} {l:aj} {b:Bool} {ns:List ab} (hl:l.length≤900):fF deep (ba l) b ns =
  if(bl l).head? = some 34 then kF (ba (bl l)) b ns
  else if(bl l).head? = some 35 then dU deep 1 (ba (bl l)) b ns
  else if(bl l).head? = some 40 then((bJ 1 (IntKind.i64.wrap (deep+1)) (ba ((bl l).drop 1)) b ns).bind fun z6=>(if z6.2.1.2.2.1=true then(some ((z6.1.1,()),((z6.2.1.1,z6.2.1.2.1,true,()),()))) else((bE (⟨#[41]⟩:aa_) z6.2.1.1 z6.2.1.2.2.1 z6.2.1.2.1).bind fun z7=>(some ((z6.1.1,()),((z7.2.1.1,z7.2.1.2.1,(!z7.1.1),()),()))))))
  else fe deep ((bl l).takeWhile bb) ((bl l).dropWhile bb) b ns:=by
 have h1:=aV (aH l)
 have h2:((bl l).takeWhile bb).length≤(bl l).length:=mO bb (bl l)
 rw[HD,nD]
 simp only[ab_]
 rw[show(⟨#[34]⟩:aa_)=ba [34] from rfl,sY _ _ (by omega),show(⟨#[35]⟩:aa_)=ba [35] from rfl,sY _ _ (by omega),show(⟨#[40]⟩:aa_)=ba [40] from rfl,da (by omega)]
 simp only[ab_,gM,F4,dF,io (c:=40) (.inr (.inl rfl)),ai_,ad_]
 by_cases c1:(bl l).head? = some 34
 ·rw[ae_ c1,ae_ c1]
 ·rw[ac_ c1,ac_ c1]
  by_cases c2:(bl l).head? = some 35
  ·rw[ae_ c2,ae_ c2]
  ·rw[ac_ c2,ac_ c2]
   by_cases c3:(bl l).head? = some 40
   ·rw[ae_ c3,ae_ c3,ae_ c3]
   ·rw[ac_ c3,ac_ c3,ac_ c3,AV (by omega),dF]
    simp only[ab_]
    rw[oK (by omega),oI (by omega)]
    simp only[ab_,gM,WK]
    unfold fe
    cases (bo ((bl l).takeWhile bb)).2 with
    | false=>simp
    | true =>
     by_cases k1:(bo ((bl l).takeWhile bb)).1.1=1
     ·simp[k1]
     ·by_cases k3:(bo ((bl l).takeWhile bb)).1.1=3
      ·simp[k3]
      ·simp[k1,k3]
def BH (m:aj):Bool:=(cU (m.takeWhile bb)).2 && decide ((bl (m.dropWhile bb)).head? = some 58)
def kq (m:aj):aj:=bl ((bl (m.dropWhile bb)).drop 1)
theorem Gd {l:aj} {b:Bool} {ns:List ab} (hl:l.length≤900):lf (ba l) b ns =
  if BH (bl l)=true then some ((nA (cU ((bl l).takeWhile bb)).1 (cU ((kq (bl l)).takeWhile bb)).1,true,()),((ba ((kq (bl l)).dropWhile bb),ns,(b || !(cU ((kq (bl l)).takeWhile bb)).2),()),()))
  else some (((0,0,(0,0,(⟨#[]⟩:aa_),()),((0,0,()),false,false,()),((0,0,()),false,false,()),([]:(List Int)),()),false,()),((ba l,ns,b,()),())):=by
 have h1:=aV (aH l)
 have h2:((bl l).takeWhile bb).length≤(bl l).length:=mO bb (bl l)
 have h3:=Lm bb (bl l)
 have h4:=aV (aH ((bl l).dropWhile bb))
 have h5:((bl ((bl l).dropWhile bb)).drop 1).length≤(bl ((bl l).dropWhile bb)).length:=aV (gk 1 _)
 have h6:=aV (aH ((bl ((bl l).dropWhile bb)).drop 1))
 have h7:((kq (bl l)).takeWhile bb).length≤(kq (bl l)).length:=mO bb _
 have h8:(kq (bl l)).length≤((bl ((bl l).dropWhile bb)).drop 1).length:=h6
 rw[BR,AV (by omega)]
 simp only[ab_]
 rw[oI (by omega)]
 simp only[ab_]
 unfold BH
 cases hp:(cU ((bl l).takeWhile bb)).2 with
 | false=>simp
 | true =>
  simp only[ba_,bt_]
  rw[show(⟨#[58]⟩:aa_)=ba [58] from rfl,da (by omega)]
  simp only[ab_,io (c:=58) (.inr (.inr (.inr (.inr rfl)))),ad_]
  by_cases hc:(bl ((bl l).dropWhile bb)).head? = some 58
  ·simp only[hc,ck_,bc_,ak_,av_,ba_]
   rw[AV (by omega)]
   simp only[ab_]
   rw[show bl ((bl ((bl l).dropWhile bb)).drop 1)=kq (bl l) from rfl,oI (by omega)]
   simp only[ab_]
   cases b <;> simp
  ·simp only[hc,cy_,bm_,ba_,ak_,av_]
abbrev RI:=Option ((Int×Unit)×(ri×Unit))
def xa (x:ab):Bool:=decide (x.2.2.1.2.2.1.size≤100000) && decide (x.2.2.2.2.2.1.length≤100000)
def sm (ns:List ab):Bool:=ns.all xa
def ij (l:aj) (b:Bool) (ns:List ab) (F:RI):Prop :=
 ∃(i:Int) (l':aj) (b':Bool) (ns':List ab),F=some ((i,()),((ba l',ns',b',()),()))∧l' <:+ l∧(b=true→b'=true)∧ns <+: ns'∧ns'.length≤60∧(sm ns=true→sm ns'=true)
theorem ij.mono {l l0:aj} {b b0:Bool} {ns ns0:List ab} {F:RI} (h:ij l b ns F) (h1:l <:+ l0) (h2:b0=true→b=true) (h3:ns0 <+: ns) (h4:sm ns0=true→sm ns=true:=by exact id):ij l0 b0 ns0 F:=by
 obtain⟨i,l',b',ns',e,k1,k2,k3,k4,k5⟩:=h
 exact⟨i,l',b',ns',e,an k1 h1,fun h=>k2 (h2 h),List.IsPrefix.trans h3 k3,k4,fun h=>k5 (h4 h)⟩
theorem pf (l:aj):l <:+ l:=List.suffix_refl l
theorem fq {x:ab} {l:aj} {b:Bool} {ns:List ab} (hn:ns.length≤60) (hx:xa x=true:=by rfl):ij l b ns (aU x (ba l) b ns):=by
 obtain⟨i,h,_⟩:=zy (x:=x) (l:=l) (b:=b) hn
 refine⟨i,l,_,_,h,pf l,(fun hb=>by rw[hb]; rfl),?_,?_,?_⟩
 ·split
  ·exact⟨[x],rfl⟩
  ·exact du_ _
 ·split
  ·rename_i h
   rw[af_,ad_]
   omega
  ·exact hn
 ·intro hs
  split
  ·unfold sm at hs ⊢
   rw[cr_,hs]
   simp[hx]
  ·exact hs
theorem Sk {v:ac} (h:v.2.2.1.size≤100000):xa (nC v)=true:=by
 unfold xa
 rw[bb_ h]
 rfl
theorem Ij {op:Int} {y:List Int} (h:y.length≤100000):xa (6,op,(0,0,(⟨#[]⟩:aa_),()),((0,0,()),false,false,()),((0,0,()),false,false,()),y,())=true:=by
 unfold xa
 rw[ag_]
 exact⟨rfl,bb_ h⟩
theorem jW {v:ac} {r:aa_} {b:Bool} {ns:List ab}:ca v r b ns=aU (nC v) r b ns:=by
 rw[BP]
 exact gM
theorem zz {i:Int} {l:aj} {b:Bool} {ns:List ab} (hn:ns.length≤60):ij l b ns (some ((i,()),((ba l,ns,true,()),()))) :=
 ⟨i,l,true,ns,rfl,pf l,fun _=>rfl,du_ _,hn,id⟩
theorem iE {l:aj} {c:UInt8} (h:l.head? = some c) : ∃ t,l=c :: t:=by
 cases l with
 | nil=>cases h
 | cons y t =>
  simp only[dg_,bd_] at h
  exact⟨t,by rw[h]⟩
theorem pg {l:aj} {c:UInt8} (h:(bl l).head? = some c):((bl l).drop 1).length < l.length:=by
 have:=aV (aH l)
 obtain⟨t,ht⟩:=iE h
 rw[ht] at this ⊢
 simp only[aj_,bu_,cu_] at this ⊢
 omega
theorem iG (l:aj):(bl l).drop 1 <:+ l:=an (gk 1 _) (aH l)
theorem Pm (l:aj):(bl l).dropWhile bb <:+ l:=an (go_ _) (aH l)
theorem JK (l:aj):(kq (bl l)).dropWhile bb <:+ l :=
 an (go_ _) (an (aH _) (an (gk 1 _) (an (aH _) (Pm l))))
section
variable {n:Nat} (HB : ∀ l:aj,l.length < n → ∀(deep least:Int) (b:Bool) (ns:List ab),0≤deep→deep+(l.length:Int)≤400→ns.length≤60→ij l b ns (bJ least deep (ba l) b ns))
include HB
theorem Lv : ∀(m:Nat) (l:aj) (op deep:Int) (b:Bool) (kids:List Int) (ns:List ab),l.length=m→l.length < n→0≤deep→deep+1+(l.length:Int)≤400→kids.length+l.length≤10000→ns.length≤60→ij l b ns (cj op deep (ba l) b kids ns):=by
 intro m
 induction m using Nat.strongRecOn with
 | ind m ih =>
  intro l op deep b kids ns hm hln hd0 hd hk hn
  subst hm
  rw[jo]
  cases b with
  | true =>
   simp only[bc_,ak_,av_,gM]
   exact fq hn (Ij (by omega))
  | false =>
   have tail : ∀(l2:aj) (b2:Bool) (ns2:List ab) (y:List Int),l2 <:+ l→ns <+: ns2→ns2.length≤60→y.length=kids.length+1→(sm ns=true→sm ns2=true) →
     ij l false ns ((bE (⟨#[44]⟩:aa_) (ba l2) b2 ns2).bind fun z3=>(if(!z3.1.1)=true then(if z3.2.1.2.2.1=true then((aU (6,op,(0,0,(⟨#[]⟩:aa_),()),((0,0,()),false,false,()),((0,0,()),false,false,()),y,()) z3.2.1.1 true z3.2.1.2.1).bind fun z4=>(some ((z4.1.1,()),(z4.2.1,())))) else((bE (⟨#[41]⟩:aa_) z3.2.1.1 z3.2.1.2.2.1 z3.2.1.2.1).bind fun z5=>((aU (6,op,(0,0,(⟨#[]⟩:aa_),()),((0,0,()),false,false,()),((0,0,()),false,false,()),y,()) z5.2.1.1 (!z5.1.1) z5.2.1.2.1).bind fun z6=>(some ((z6.1.1,()),(z6.2.1,())))))) else(cj op deep z3.2.1.1 z3.2.1.2.2.1 y z3.2.1.2.1))):=by
    intro l2 b2 ns2 y hs hp hn2 hy hsm
    have hl2:=aV hs
    rw[show(⟨#[44]⟩:aa_)=ba [44] from rfl,da (by omega)]
    simp only[ab_,io (c:=44) (.inr (.inr (.inr (.inl rfl)))),gM,ad_]
    by_cases hc:(bl l2).head? = some 44
    ·have hlt:=pg hc
     simp only[hc,ck_,bc_,ak_,av_,ba_]
     exact(ih _ (by omega) _ op deep b2 y ns2 rfl (by omega) hd0 (by omega) (by omega) hn2).mono (an (iG l2) hs) (fun h=>by cases h) hp hsm
    ·simp only[hc,cy_,bm_,ba_,av_]
     have hbl:=aV (aH l2)
     cases b2 with
     | true =>
      simp only[ba_]
      exact(fq hn2 (Ij (by omega))).mono (an (aH l2) hs) (fun h=>by cases h) hp hsm
     | false =>
      simp only[ak_,av_]
      rw[show(⟨#[41]⟩:aa_)=ba [41] from rfl,da (by omega)]
      simp only[ab_,gM]
      refine(fq hn2 (Ij (by omega))).mono ?_ (fun h=>by cases h) hp hsm
      split
      ·exact an (an (gk _ _) (aH _)) (an (aH l2) hs)
      ·exact an (aH _) (an (aH l2) hs)
   simp only[bm_,ba_]
   rw[Gd (by omega)]
   by_cases ha:BH (bl l)=true
   ·rw[ae_ ha]
    simp only[ab_,ba_]
    obtain⟨i2,l2,b2,ns2,h2,k1,k2,k3,k4,k5⟩:=fq (x:=nA (cU ((bl l).takeWhile bb)).1 (cU ((kq (bl l)).takeWhile bb)).1) (l:=(kq (bl l)).dropWhile bb) (b:=(false || !(cU ((kq (bl l)).takeWhile bb)).2)) hn
    rw[h2]
    simp only[ab_]
    rw[bi (by simp only[ad_]; omega)]
    exact tail _ _ _ _ (an k1 (JK l)) k3 k4 (by simp) k5
   ·rw[ac_ ha]
    simp only[ab_,ak_,av_]
    rw[wr (by omega) (by omega)]
    obtain⟨i2,l2,b2,ns2,h2,k1,k2,k3,k4,k5⟩:=HB l hln (deep+1) 1 false ns (by omega) hd hn
    rw[h2]
    simp only[ab_]
    rw[bi (by simp only[ad_]; omega)]
    exact tail _ _ _ _ k1 k3 k4 (by simp) k5
theorem YP {l:aj} {op deep:Int} {b:Bool} {ns:List ab} (hln:l.length < n) (hd0:0≤deep) (hd:deep+1+(l.length:Int)≤400) (hn:ns.length≤60):ij l b ns (gB op deep (ba l) b ns):=by
 rw[qu]
 cases b with
 | true =>
  rw[ae_ rfl,CY]
  simp only[bc_,ak_,av_,gM]
  exact fq hn (Ij (by simp))
 | false =>
  rw[ac_ (by decide),show(⟨#[40]⟩:aa_)=ba [40] from rfl,da (by omega)]
  simp only[ab_]
  have hs:(if sg (bl l)=[40] then(bl l).drop ([40]:aj).length else bl l) <:+ l:=by
   split
   ·exact iG l
   ·exact aH l
  have:=aV hs
  exact(Lv HB _ _ op deep _ [] ns rfl (by omega) hd0 (by omega) (by simp only[List.length_nil]; omega) hn).mono hs (fun h=>by cases h) (du_ _)
theorem YQ {deep:Int} {w r:aj} {b:Bool} {ns:List ab} (hln:mN.find? (fun k=>decide (dL k=w))≠none→r.length < n∧deep+1+(r.length:Int)≤400) (hd0:0≤deep) (hn:ns.length≤60):ij r b ns (fe deep w r b ns):=by
 unfold fe
 split
 ·rename_i hc
  rw[jW]
  exact fq hn (Sk (bq_ (dV (pd hc.1).1) (by decide)))
 ·split
  ·exact fq hn
  ·cases hf:mN.find? (fun k=>decide (dL k=w)) with
   | some k =>
    obtain⟨h1,h2⟩:=hln (by rw[hf]; simp)
    exact YP HB h1 hd0 h2 hn
   | none=>exact zz hn
end
theorem Sl {w:aj} (h:mN.find? (fun k=>decide (dL k=w))≠none) : ∃ k,mN.find? (fun k=>decide (dL k=w))=some k∧dL k=w∧k∈mN∧w≠[]:=by
 cases hf:mN.find? (fun k=>decide (dL k=w)) with
 | none=>exact bh_ hf h
 | some k =>
  have h1:=List.find?_some hf
  have h2:=List.mem_of_find?_eq_some hf
  have h3:dL k=w:=by simpa using h1
  refine⟨k,rfl,h3,h2,?_⟩
  have : ∀ k∈mN,dL k≠[]:=by decide
  rw[←h3]
  exact this k h2
theorem Sm {l:aj} (h:(bl l).takeWhile bb≠[]):((bl l).dropWhile bb).length < l.length:=by
 have h1:=aV (aH l)
 have h2:=congrArg am_ (List.takeWhile_append_dropWhile (p:=bb) (l:=bl l))
 rw[af_] at h2
 have h3:=List.length_pos_iff.2 h
 omega
theorem UI {l:aj} {b:Bool} {ns:List ab} (hl:l.length≤900) (hn:ns.length≤60):ij (34 :: l) b ns (kF (ba (34 :: l)) b ns):=by
 rw[AY hl]
 cases hq:qt l with
 | none=>exact zz hn
 | some p =>
  obtain⟨h1,h2,_⟩:=WG l p.1 p.2 hq
  show ij _ b ns (ca _ _ b ns)
  rw[jW]
  refine(fq hn (Sk ?_)).mono (an h1 ⟨[34],rfl⟩) id (du_ _)
  show(ba ([]++p.1)).size≤_
  rw[aK]
  simp only[List.nil_append]
  omega
theorem Lw (l:aj):(bl (35 :: l)).takeWhile bb=[]∧(bl (35 :: l)).dropWhile bb=35 :: l:=by
 have h1:bl (35 :: l)=35 :: l:=bj_ (by decide)
 rw[h1]
 exact⟨ez_ (by decide),bj_ (by decide)⟩
theorem JL {deep:Int} {l:aj} {b:Bool} {ns:List ab} (hl:l.length≤800):dU deep 1 (ba (35 :: l)) b ns=match qH.find? (gZ l) with
  | some n=>ca (vE n) (ba (l.drop (dC n).length)) b ns
  | none=>some ((-1,()),((ba (35 :: l),ns,true,()),())):=by
 have h:=Lt (deep:=deep) (l:=l) (b:=b) (ns:=ns) (by omega) qH [] rfl
 have h:dU deep 1 (ba (35 :: l)) b ns=_:=h
 rw[h]
 cases qH.find? (gZ l) with
 | some n=>rfl
 | none =>
  simp only
  rw[acv (by rw[aj_]; omega),(Lw l).1,(Lw l).2]
  have e1 : ¬((bo []).2=true∧((bo []).1.1=1∨(bo []).1.1=3)):=by decide +kernel
  have e2 : ¬(cU []).2=true:=by decide +kernel
  have e3:mN.find? (fun k=>decide (dL k=[]))=none:=by decide +kernel
  unfold fe
  rw[ac_ e1,ac_ e2,e3]
theorem YR {l:aj} (HB : ∀ l':aj,l'.length < l.length → ∀(deep least:Int) (b:Bool) (ns:List ab),0≤deep→deep+(l'.length:Int)≤400→ns.length≤60→ij l' b ns (bJ least deep (ba l') b ns))
  {deep:Int} {b:Bool} {ns:List ab} (hd0:0≤deep) (hd:deep+(l.length:Int)≤400) (hn:ns.length≤60):ij l b ns (fF deep (ba l) b ns):=by
 have hbl:=aV (aH l)
 rw[rC (by omega)]
 by_cases c1:(bl l).head? = some 34
 ·rw[ae_ c1]
  obtain⟨t,ht⟩:=iE c1
  have htl:t.length+1=(bl l).length:=by rw[ht]; simp
  rw[ht]
  exact(UI (by omega) hn).mono (by rw[←ht]; exact aH l) id (du_ _)
 ·rw[ac_ c1]
  by_cases c2:(bl l).head? = some 35
  ·rw[ae_ c2]
   obtain⟨t,ht⟩:=iE c2
   have htl:t.length+1=(bl l).length:=by rw[ht]; simp
   have hts:t <:+ l:=an ⟨[35],by rw[ht]; rfl⟩ (aH l)
   rw[ht,JL (by omega)]
   cases qH.find? (gZ t) with
   | some n =>
    simp only
    rw[jW]
    exact(fq hn (Sk (by show eS.size≤_; decide))).mono (an (gk _ _) hts) id (du_ _)
   | none=>exact(zz hn).mono (by rw[←ht]; exact aH l) id (du_ _)
  ·rw[ac_ c2]
   by_cases c3:(bl l).head? = some 40
   ·rw[ae_ c3]
    have hlt:=pg c3
    rw[wr (by omega) (by omega)]
    obtain⟨i2,l2,b2,ns2,h2,k1,k2,k3,k4,k5⟩:=HB _ hlt (deep+1) 1 b ns (by omega) (by omega) hn
    rw[h2]
    simp only[ab_]
    have hl2:=aV k1
    have hs2:l2 <:+ l:=an k1 (iG l)
    cases b2 with
    | true =>
     simp only[ba_]
     exact⟨i2,l2,true,ns2,rfl,hs2,fun _=>rfl,k3,k4,k5⟩
    | false =>
     simp only[ak_,av_]
     rw[show(⟨#[41]⟩:aa_)=ba [41] from rfl,da (by omega)]
     simp only[ab_]
     refine⟨i2,_,_,ns2,rfl,?_,(fun h=>by have:=k2 h; cases this),k3,k4,k5⟩
     split
     ·exact an (an (gk _ _) (aH _)) hs2
     ·exact an (aH _) hs2
   ·rw[ac_ c3]
    refine(YQ HB (fun h => ?_) hd0 hn).mono (Pm l) id (du_ _)
    obtain⟨k,_,_,_,hw⟩:=Sl h
    have:=Sm hw
    omega
theorem WL : ∀(m:Nat) (l:aj),l.length=m→(∀ l':aj,l'.length < l.length → ∀(deep least:Int) (b:Bool) (ns:List ab),0≤deep→deep+(l'.length:Int)≤400→ns.length≤60→ij l' b ns (bJ least deep (ba l') b ns)) →
  ∀(deep:Int) (b:Bool) (ns:List ab),0≤deep→deep+(l.length:Int)≤400→ns.length≤60→ij l b ns (eV deep (ba l) b ns):=by
 intro m
 induction m using Nat.strongRecOn with
 | ind m ih =>
  intro l hm HB deep b ns hd0 hd hn
  subst hm
  rw[li,aE (by omega)]
  cases b with
  | true =>
   simp only[ba_]
   exact zz hn
  | false =>
   simp only[ak_,av_,gM]
   rw[show(⟨#[45]⟩:aa_)=ba [45] from rfl,da (by omega)]
   simp only[ab_,io (c:=45) (.inl rfl),ad_]
   have hbl:=aV (aH l)
   by_cases hc:(bl l).head? = some 45
   ·have hlt:=pg hc
    simp only[hc,ck_,ba_]
    rw[wr (by omega) (by omega)]
    obtain⟨i2,l2,b2,ns2,h2,k1,k2,k3,k4,k5⟩:=ih _ hlt _ rfl (fun l' h'=>HB l' (by omega)) (deep+1) false ns (by omega) (by omega) hn
    rw[h2]
    simp only[ab_]
    exact(fq k4).mono (an k1 (iG l)) (fun h=>by cases h) k3 k5
   ·simp only[hc,cy_,ak_,av_]
    exact(YR (l:=bl l) (fun l' h'=>HB l' (by omega)) hd0 (by omega) hn).mono (aH l) id (du_ _)
theorem zA {least deep left:Int} {op:Int} {l:aj} {ns:List ab} (ho:0≤op) (ho2:op≤11) (hl:l.length≤900) (hs:op≠0→sg (bl l)=dx op):cJ least deep left op 12 (ba l) false ns =
  if op=0∨cE op < least then some ((left,()),((ba l,ns,false,()),()))
  else((bJ (cE op+1) deep (ba ((bl l).drop (dx op).length)) false ns).bind fun z7=>((aU (5,op,(0,0,(⟨#[]⟩:aa_),()),((0,0,()),false,false,()),((0,0,()),false,false,()),([left,z7.1.1]:(List Int)),()) z7.2.1.1 z7.2.1.2.2.1 z7.2.1.2.1).bind fun z8=>(cI least deep z8.1.1 z8.2.1.1 z8.2.1.2.2.1 z8.2.1.2.1))):=by
 rw[qw,aE (by decide)]
 by_cases h0:op=0
 ·rw[ae_ (by rw[h0]; rfl),ae_ (.inl h0)]
 ·have h0' : ¬(op == 0)=true:=by simpa using h0
  have hlv:1≤cE op∧cE op≤4:=by
   unfold cE
   repeat' split
   all_goals omega
  rw[ac_ h0',Lr (by omega) ho2]
  simp only[ab_]
  by_cases h1:cE op < least
  ·rw[aJ h1,ae_ (.inr h1)]
  ·rw[aE h1,ac_ (by omega),AU ho ho2]
   simp only[ab_]
   rw[da (by omega),hs h0]
   simp only[ab_,ba_]
   rw[wr (by omega) (by omega)]
theorem Pn {l:aj} (h:ej (bl l)≠0):((bl l).drop (dx (ej (bl l))).length).length < l.length:=by
 have h1:=aV (aH l)
 have h2:=rA h
 have h3:=D7 (Pc (bl l))
 have h4:1≤(dx (ej (bl l))).length:=by
  have:=mM (bl l)
  have h5 : ∀ k:Fin 12,k.val≠0→1≤(dx (k.val:Int)).length:=by decide
  have:=h5 ⟨(ej (bl l)).toNat,by omega⟩ (by simp only; omega)
  simp only[cp_ (mM (bl l)).1] at this
  exact this
 rw[h2] at h3
 rw[dp_]
 omega
theorem AZ : ∀(m:Nat) (l:aj),l.length=m→(∀ l':aj,l'.length < l.length → ∀(deep least:Int) (b:Bool) (ns:List ab),0≤deep→deep+(l'.length:Int)≤400→ns.length≤60→ij l' b ns (bJ least deep (ba l') b ns)) →
  ∀(least deep left:Int) (b:Bool) (ns:List ab),0≤deep→deep+(l.length:Int)≤400→ns.length≤60→ij l b ns (cI least deep left (ba l) b ns):=by
 intro m
 induction m using Nat.strongRecOn with
 | ind m ih =>
  intro l hm HB least deep left b ns hd0 hd hn
  subst hm
  rw[fJ]
  cases b with
  | true=>exact zz hn
  | false =>
   simp only[bm_,ba_]
   have hbl:=aV (aH l)
   obtain⟨o1,o2⟩:=mM (bl l)
   rw[vP (by omega),zA o1 o2 (by omega) (fun h=>by rw[dF]; exact rA h),dF]
   split
   ·exact⟨left,bl l,false,ns,rfl,aH l,fun h=>h,du_ _,hn,id⟩
   ·rename_i hop
    have hop':ej (bl l)≠0:=fun e=>hop (.inl e)
    have hlt:=Pn hop'
    obtain⟨i2,l2,b2,ns2,h2,k1,k2,k3,k4,k5⟩:=HB _ hlt deep (cE (ej (bl l))+1) false ns hd0 (by omega) hn
    rw[h2]
    simp only[ab_]
    obtain⟨i3,l3,b3,ns3,h3,j1,j2,j3,j4,j5⟩:=fq (x:=(5,ej (bl l),(0,0,(⟨#[]⟩:aa_),()),((0,0,()),false,false,()),((0,0,()),false,false,()),([left,i2]:(List Int)),())) (l:=l2) (b:=b2) k4
    rw[h3]
    simp only[ab_]
    have hs2:=aV k1
    have hs3:=aV j1
    exact(ih _ (by omega) l3 rfl (fun l' h'=>HB l' (by omega)) least deep i3 b3 ns3 hd0 (by omega) j4).mono (an j1 (an k1 (an (gk _ _) (aH l)))) (fun h=>by cases h) (List.IsPrefix.trans k3 j3) (fun h=>j5 (k5 h))
theorem UJ : ∀(m:Nat) (l:aj),l.length=m → ∀(deep least:Int) (b:Bool) (ns:List ab),0≤deep→deep+(l.length:Int)≤400→ns.length≤60→ij l b ns (bJ least deep (ba l) b ns):=by
 intro m
 induction m using Nat.strongRecOn with
 | ind m ih =>
  intro l hm deep least b ns hd0 hd hn
  subst hm
  have HB : ∀ l':aj,l'.length < l.length → ∀(deep least:Int) (b:Bool) (ns:List ab),0≤deep→deep+(l'.length:Int)≤400→ns.length≤60→ij l' b ns (bJ least deep (ba l') b ns) :=
   fun l' h' deep least b ns d0 d1 hn=>ih _ h' l' rfl deep least b ns d0 d1 hn
  rw[nR]
  obtain⟨i2,l2,b2,ns2,h2,k1,k2,k3,k4,k5⟩:=WL _ l rfl HB deep b ns hd0 hd hn
  rw[h2]
  simp only[ab_]
  have hs2:=aV k1
  exact(AZ _ l2 rfl (fun l' h'=>HB l' (by omega)) least deep i2 b2 ns2 hd0 (by omega) k4).mono k1 k2 k3 k5
abbrev RS:=Option ((Int×Unit)×(lK×Unit))
def dN (ns:List ab):Bool:=ns.all dj
theorem WM {ns ns':List ab} (h:ns <+: ns') (k:dN ns=false):dN ns'=false:=by
 obtain⟨r,rfl⟩:=h
 unfold dN at k ⊢
 rw[cr_,k]
 rfl
def Dm (b:Bool) (ns:List ab):Prop:=(b=true∨dN ns=false)∧sm ns=true
theorem Lx {x:ab} (h:dj x=true):xa x=true:=by
 have:x.2.2.1.2.2.1.size≤100000∧x.2.2.2.2.2.1.length≤100000:=by
  unfold dj kl at h
  split at h
  ·simp only[ag_,ai_] at h
   have:=dV h.1.1.2
   omega
  ·split at h
   ·simp only[ag_,ai_] at h
    rw[h.1.1.1.2]
    exact⟨by decide,by omega⟩
   ·split at h
    ·simp only[ag_,ai_] at h
     rw[h.1.1.2]
     exact⟨by decide,by omega⟩
    ·split at h
     ·simp only[ag_,ai_] at h
      rw[h.1.1.1.2]
      exact⟨by decide,by omega⟩
     ·split at h
      ·simp only[ag_,ai_] at h
       rw[h.1.1.1.2]
       exact⟨by decide,by omega⟩
      ·split at h
       ·simp only[ag_,ai_] at h
        rw[h.1.1.2]
        refine⟨by decide,?_⟩
        have h2:=h.1.1.1
        unfold kM at h2
        split at h2
        ·simp only[cx_,ai_] at h2
         omega
        ·split at h2
         ·have:=bm.1 h2
          omega
         ·split at h2
          ·simp only[ai_] at h2
           omega
          ·cases h2
       ·cases h
 unfold xa
 rw[bb_ this.1,bb_ this.2]
 rfl
theorem vR {ns:List ab} (h:dN ns=true):sm ns=true:=by
 unfold dN at h
 unfold sm
 rw[List.all_eq_true] at h ⊢
 exact fun x hx=>Lx (h x hx)
theorem Ik {ns:List ab} (h:dN ns=true):Dm true ns:=⟨.inl rfl,vR h⟩
theorem ij.dm {l:aj} {b:Bool} {ns:List ab} {F:RI} (h:ij l b ns F) (hd:Dm b ns) : ∃(i:Int) (l':aj) (b':Bool) (ns':List ab),F=some ((i,()),((ba l',ns',b',()),()))∧l' <:+ l∧Dm b' ns'∧ns'.length≤60:=by
 obtain⟨i,l',b',ns',e,k1,k2,k3,k4,k5⟩:=h
 exact⟨i,l',b',ns',e,k1,⟨hd.1.elim (fun h => .inl (k2 h)) (fun h => .inr (WM k3 h)),k5 hd.2⟩,k4⟩
def oq (s m:aj) (L:Int) (F:RI) (G:RS):Prop :=
 (∃(i:Int) (l1 l2:aj) (ns:List ab),F=some ((i,()),((ba l1,ns,false,()),()))∧G=some ((i,()),((ba s,at' s l2,false,ns,()),()))∧bl l1=bl l2∧l1 <:+ m∧l2 <:+ m∧dN ns=true∧ns.length≤60∧(ej (bl l1)=0∨cE (ej (bl l1)) < L))
 ∨ (∃(i:Int) (l1:aj) (b1:Bool) (ns1:List ab) (j:Int) (l2:aj) (ns2:List ab),F=some ((i,()),((ba l1,ns1,b1,()),()))∧Dm b1 ns1∧l1 <:+ m∧ns1.length≤60∧G=some ((j,()),((ba s,at' s l2,true,ns2,()),()))∧l2 <:+ s∧ns2.length≤61+m.length)
theorem UK (k:Int):cE k < 5:=by
 unfold cE
 repeat' split
 all_goals omega
theorem oq.mono {s m m':aj} {L:Int} {F:RI} {G:RS} (h:oq s m L F G) (hm:m <:+ m'):oq s m' L F G:=by
 have:=aV hm
 rcases h with⟨i,l1,l2,ns,e1,e2,h1,h2,h3,h4,h5,h6⟩ | ⟨i,l1,b1,ns1,j,l2,ns2,e1,h1,h2,h3,e2,h4,h5⟩
 ·exact .inl ⟨i,l1,l2,ns,e1,e2,h1,an h2 hm,an h3 hm,h4,h5,h6⟩
 ·exact .inr ⟨i,l1,b1,ns1,j,l2,ns2,e1,h1,an h2 hm,h3,e2,h4,by omega⟩
theorem Sn {ns:List ab} {x:ab} (h:sm ns=true) (hx:xa x=true):sm (ns++[x])=true:=by
 unfold sm at h ⊢
 rw[cr_,h]
 simp[hx]
theorem Po {x:ab} (h:xa x=true):x.2.2.1.2.2.1.size≤9223372036854775807:=by
 unfold xa at h
 rw[ag_,ai_] at h
 exact bq_ h.1 (by decide)
theorem rD {s m l1 l2:aj} {x:ab} {ns:List ab} (hsx:xa x=true) (h1:bl l1=bl l2) (k1:l1 <:+ m) (k2:l2 <:+ m) (hms:m <:+ s) (ho:dN ns=true) (hn:ns.length≤60) :
  oq s m 5 (aU x (ba l1) false ns) (cx x (ba s) (at' s l2) false ns):=by
 have hx:=Po hsx
 obtain⟨i,e,hi⟩:=zy (x:=x) (l:=l1) (b:=false) hn
 rw[e,JI (by omega) hx]
 by_cases hlt:ns.length < 60
 ·have hi:=hi rfl hlt
  subst hi
  have d60:decide (60≤ns.length)=false:=bf_ (by omega)
  rw[d60,ae_ ⟨rfl,hlt⟩]
  simp only[cz_]
  cases hk:dj x with
  | true =>
   refine .inl ⟨_,l1,l2,ns++[x],rfl,rfl,h1,k1,k2,?_,?_,.inr (UK _)⟩
   ·unfold dN at ho ⊢
    rw[cr_,ho]
    simp[hk]
   ·rw[af_,ad_]; omega
  | false =>
   refine .inr ⟨_,l1,false,ns++[x],(ns.length:Int),l2,ns++[x],rfl,⟨.inr ?_,Sn (vR ho) hsx⟩,k1,?_,rfl,an k2 hms,?_⟩
   ·unfold dN
    rw[cr_]
    simp[hk]
   ·rw[af_,ad_]; omega
   ·rw[af_,ad_]; omega
 ·have d60:decide (60≤ns.length)=true:=bb_ (by omega)
  rw[d60,ac_ (by omega)]
  refine .inr ⟨i,l1,true,ns,(ns.length:Int),l2,ns++[x],rfl,Ik ho,k1,hn,?_,an k2 hms,?_⟩
  ·simp
  ·rw[af_,ad_]; omega
theorem Pp {s:aj} {a:Int} {x:ab} {ns:List ab} (hn:ns.length≤1000) (hx:x.2.2.1.2.2.1.size≤9223372036854775807):cx x (ba s) a true ns=some (((ns.length:Int),()),((ba s,a,true,ns++[x],()),())):=by
 rw[JI hn hx]
 rfl
theorem UL {op:Int} {s:aa_} {a:Int} {b:Bool} {ns:List ab} {kids:List Int}:tu op s a b ns kids=dt op s a b kids ns:=by
 rw[FY,nS]
theorem Ly {op:Int} {s:aa_} {a:Int} {ns:List ab} {kids:List Int}:dt op s a true kids ns=some ((0,()),((s,a,true,ns,()),())):=by
 rw[nS]
 rfl
abbrev nF (op:Int) (kids:List Int):ab:=(6,op,(0,0,(⟨#[]⟩:aa_),()),((0,0,()),false,false,()),((0,0,()),false,false,()),kids,())
noncomputable def A0 (op deep:Int) (y:List Int) (r:aa_) (b:Bool) (ns:List ab):RI :=
 (bE (⟨#[44]⟩:aa_) r b ns).bind fun z3=>(if(!z3.1.1)=true then(if z3.2.1.2.2.1=true then((aU (nF op y) z3.2.1.1 true z3.2.1.2.1).bind fun z4=>(some ((z4.1.1,()),(z4.2.1,())))) else((bE (⟨#[41]⟩:aa_) z3.2.1.1 z3.2.1.2.2.1 z3.2.1.2.1).bind fun z5=>((aU (nF op y) z5.2.1.1 (!z5.1.1) z5.2.1.2.1).bind fun z6=>(some ((z6.1.1,()),(z6.2.1,())))))) else(cj op deep z3.2.1.1 z3.2.1.2.2.1 y z3.2.1.2.1))
theorem Q4 {op deep:Int} {l:aj} {kids:List Int} {ns:List ab} (hl:l.length≤900):cj op deep (ba l) false kids ns =
  if BH (bl l)=true then(aU (nA (cU ((bl l).takeWhile bb)).1 (cU ((kq (bl l)).takeWhile bb)).1) (ba ((kq (bl l)).dropWhile bb)) (!(cU ((kq (bl l)).takeWhile bb)).2) ns).bind fun z2=>(app kids ([z2.1.1]:(List Int)) 8 fun y1=>A0 op deep y1 z2.2.1.1 z2.2.1.2.2.1 z2.2.1.2.1)
  else(bJ 1 (IntKind.i64.wrap (deep+1)) (ba l) false ns).bind fun z7=>(app kids ([z7.1.1]:(List Int)) 8 fun y2=>A0 op deep y2 z7.2.1.1 z7.2.1.2.2.1 z7.2.1.2.1):=by
 rw[jo]
 simp only[bm_,ba_]
 rw[Gd hl]
 by_cases ha:BH (bl l)=true
 ·rw[ae_ ha,ae_ ha]
  simp only[ab_,ba_,cz_]
  rfl
 ·rw[ac_ ha,ac_ ha]
  simp only[ab_,ak_,av_]
  rfl
theorem Ea : ∀(l:aj),∀(deep least:Int) (b:Bool) (ns:List ab),0≤deep→deep+(l.length:Int)≤400→ns.length≤60→ij l b ns (bJ least deep (ba l) b ns):=fun l=>UJ _ l rfl
theorem A1 {op deep:Int} {y:List Int} {l:aj} {b:Bool} {ns:List ab} (hd0:0≤deep) (hd:deep+1+(l.length:Int)≤400) (hy:y.length+l.length≤9000) (hn:ns.length≤60):ij l b ns (A0 op deep y (ba l) b ns):=by
 have hbl:=aV (aH l)
 unfold A0
 rw[show(⟨#[44]⟩:aa_)=ba [44] from rfl,da (by omega)]
 simp only[ab_,gM]
 by_cases hc:sg (bl l)=[44]
 ·have hc':(bl l).head? = some 44:=by rw[←io (c:=44) (.inr (.inr (.inr (.inl rfl))))]; exact hc
  have hlt:=pg hc'
  simp only[hc,ck_,bc_,ak_,av_,ba_,ad_]
  exact(Lv (n:=l.length+1) (fun l' _ deep least b ns d0 d1 hn=>Ea l' deep least b ns d0 d1 hn) _ _ op deep b y ns rfl (by omega) hd0 (by omega) (by omega) hn).mono (iG l) id (du_ _)
 ·simp only[hc,cy_,bm_,ba_,av_]
  cases b with
  | true =>
   simp only[ba_]
   exact(fq hn (Ij (by omega))).mono (aH l) (fun _=>rfl) (du_ _)
  | false =>
   simp only[ak_,av_]
   rw[show(⟨#[41]⟩:aa_)=ba [41] from rfl,da (by omega)]
   simp only[ab_,gM]
   refine(fq hn (Ij (by omega))).mono ?_ (fun h=>by cases h) (du_ _)
   split
   ·exact an (an (gk _ _) (aH _)) (aH l)
   ·exact an (aH _) (aH l)
noncomputable def Eb (op:Int) (y:List Int) (s:aa_) (a:Int) (b:Bool) (ns:List ab):RS :=
 (dZ (⟨#[41]⟩:aa_) s a b ns).bind fun z2=>(if z2.1.1=true then((cx (nF op y) z2.2.1.1 z2.2.1.2.1 z2.2.1.2.2.1 z2.2.1.2.2.2.1).bind fun z3=>(some ((z3.1.1,()),(z3.2.1,())))) else((dZ (⟨#[44]⟩:aa_) z2.2.1.1 z2.2.1.2.1 z2.2.1.2.2.1 z2.2.1.2.2.2.1).bind fun z4=>(if(!z4.1.1)=true then(dt op z4.2.1.1 z4.2.1.2.1 true y z4.2.1.2.2.2.1) else(dt op z4.2.1.1 z4.2.1.2.1 z4.2.1.2.2.1 y z4.2.1.2.2.2.1))))
theorem xb {op:Int} {y:List Int} {s l:aj} {ns:List ab} (hs:s.length≤900) (h:l <:+ s) : ∃ l',l' <:+ s∧Eb op y (ba s) (at' s l) true ns=some ((0,()),((ba s,at' s l',true,ns,()),())):=by
 unfold Eb
 rw[show(⟨#[41]⟩:aa_)=ba [41] from rfl,jk (by omega) (by decide) h]
 simp only[ab_,bc_,Bool.false_and,ak_,av_]
 rw[show(⟨#[44]⟩:aa_)=ba [44] from rfl,jk (by omega) (by decide) (an (aH l) h)]
 simp only[ab_,bc_,Bool.false_and,ak_,av_,bm_,ba_]
 exact⟨bl (bl l),an (aH _) (an (aH l) h),Ly⟩
theorem Q5 {op:Int} {s l:aj} {kids:List Int} {ns:List ab}:dt op (ba s) (at' s l) false kids ns=(sL (ba s) (at' s l) false ns).bind fun z1=>(app kids ([z1.1.1]:(List Int)) 8 fun y1=>Eb op y1 z1.2.1.1 z1.2.1.2.1 z1.2.1.2.2.1 z1.2.1.2.2.2.1):=by
 rw[nS]
 rfl
theorem aaC {s l:aj} {ns:List ab} (hs:s.length≤900) (h:l <:+ s):sL (ba s) (at' s l) false ns =
  if BH (bl l)=true then(if(cU ((kq (bl l)).takeWhile bb)).2=true then cx (nA (cU ((bl l).takeWhile bb)).1 (cU ((kq (bl l)).takeWhile bb)).1) (ba s) (at' s ((kq (bl l)).dropWhile bb)) false ns
   else some ((0,()),((ba s,at' s ((kq (bl l)).dropWhile bb),true,ns,()),())))
  else fj 1 (ba s) (at' s (bl l)) false ns:=by
 have hm:=an (aH l) h
 have hr:=an (Pm l) h
 have hsl:=aV h
 have h1:=aV (aH l)
 have h2:=mO bb (bl l)
 have h3:=aV (JK l)
 rw[Og,Pe (by omega) h]
 simp only[ab_]
 rw[Gb (by omega) hm]
 simp only[ab_]
 rw[tA (by omega)]
 simp only[ab_]
 unfold BH
 cases hp:(cU ((bl l).takeWhile bb)).2 with
 | false=>simp only[Bool.false_and,ak_,av_,ii]
 | true =>
  simp only[ba_,bt_]
  rw[show(⟨#[58]⟩:aa_)=ba [58] from rfl,jk (by omega) (by decide) hr]
  simp only[ab_,bm_,bt_,F4]
  by_cases hc:(bl ((bl l).dropWhile bb)).head? = some 58
  ·simp only[hc,ck_,ba_,ad_]
   have hq:(bl ((bl l).dropWhile bb)).drop 1 <:+ s:=an (iG _) hr
   rw[Pe (by omega) hq]
   simp only[ab_]
   have hq2:kq (bl l) <:+ s:=an (aH _) hq
   rw[show bl ((bl ((bl l).dropWhile bb)).drop 1)=kq (bl l) from rfl,Gb (by omega) hq2]
   simp only[ab_]
   have h4:=mO bb (kq (bl l))
   have h5:=aV hq2
   rw[tA (by omega)]
   simp only[ab_,ii]
   cases (cU ((kq (bl l)).takeWhile bb)).2 <;> simp
  ·simp only[hc,cy_,ak_,av_,ii]
theorem rE {s m m':aj} {L L':Int} {F:RI} {G:RS} {K:(Int×Unit)×(ri×Unit)→RI} {K':(Int×Unit)×(lK×Unit)→RS} (h:oq s m L F G)
  (hg : ∀(i:Int) (l1 l2:aj) (ns:List ab),bl l1=bl l2→l1 <:+ m→l2 <:+ m→dN ns=true→ns.length≤60→(ej (bl l1)=0∨cE (ej (bl l1)) < L)→oq s m' L' (K ((i,()),((ba l1,ns,false,()),()))) (K' ((i,()),((ba s,at' s l2,false,ns,()),()))))
  (hd : ∀(i:Int) (l1:aj) (b1:Bool) (ns1:List ab) (j:Int) (l2:aj) (ns2:List ab),Dm b1 ns1→l1 <:+ m→ns1.length≤60→l2 <:+ s→ns2.length≤61+m.length→oq s m' L' (K ((i,()),((ba l1,ns1,b1,()),()))) (K' ((j,()),((ba s,at' s l2,true,ns2,()),())))) :
  oq s m' L' (F.bind K) (G.bind K'):=by
 rcases h with⟨i,l1,l2,ns,rfl,rfl,h1,h2,h3,h4,h5,h6⟩ | ⟨i,l1,b1,ns1,j,l2,ns2,rfl,h1,h2,h3,rfl,h4,h5⟩
 ·exact hg i l1 l2 ns h1 h2 h3 h4 h5 h6
 ·exact hd i l1 b1 ns1 j l2 ns2 h1 h2 h3 h4 h5
theorem kj {s m:aj} {L:Int} {F:RI} {G:RS} {l1:aj} {b1:Bool} {ns1:List ab} {j:Int} {l2:aj} {ns2:List ab} (hF:ij l1 b1 ns1 F) (hd:Dm b1 ns1) (h1:l1 <:+ m) (hG:G=some ((j,()),((ba s,at' s l2,true,ns2,()),()))) (h2:l2 <:+ s) (h3:ns2.length≤61+m.length):oq s m L F G:=by
 obtain⟨i,l',b',ns',e,k1,k2,k3⟩:=hF.dm hd
 exact .inr ⟨i,l',b',ns',j,l2,ns2,e,k2,an k1 h1,k3,hG,h2,h3⟩
def WN (s:aj) (n:Nat):Prop := ∀(l l0:aj),bl l=bl l0→l <:+ s→l0 <:+ s→(bl l).length < n → ∀(L deep:Int) (ns:List ab),1≤L→L≤5→0≤deep→deep+((bl l).length:Int)≤200→dN ns=true→ns.length≤60 →
 oq s (bl l) L (bJ L deep (ba l) false ns) (fj L (ba s) (at' s l0) false ns)
theorem lm {c:UInt8} {l:aj}:([c]:aj).isPrefixOf l=decide (l.head? = some c):=F4 c l
theorem YS {s:aj} (hs:s.length≤200) {n:Nat} (HB:WN s n) : ∀(k:Nat) (l1 l2:aj),(bl l1).length=k→bl l1=bl l2→l1 <:+ s→l2 <:+ s→(bl l1).length < n → ∀(op deep:Int) (kids:List Int) (ns:List ab),0≤deep→deep+1+((bl l1).length:Int)≤200→kids.length+(bl l1).length≤1000→dN ns=true→ns.length≤60 →
  oq s (bl l1) 5 (cj op deep (ba l1) false kids ns) (dt op (ba s) (at' s l2) false kids ns):=by
 intro k
 induction k using Nat.strongRecOn with
 | ind k ih =>
  intro l1 l2 hk hb hs1 hs2 hn op deep kids ns hd0 hd hkl ho hns
  subst hk
  have hl1:=aV hs1
  have hm1:=aV (aH l1)
  have hms:bl l1 <:+ s:=an (aH l1) hs1
  rw[Q4 (by omega),Q5,aaC (by omega) hs2,←hb]
  have doom : ∀(y:List Int) (x1:aj) (b1:Bool) (ns1:List ab) (x2:aj) (ns2:List ab),y.length=kids.length+1→Dm b1 ns1→x1 <:+ bl l1→ns1.length≤60→x2 <:+ s→ns2.length≤61+(bl l1).length →
    oq s (bl l1) 5 (A0 op deep y (ba x1) b1 ns1) (Eb op y (ba s) (at' s x2) true ns2):=by
   intro y x1 b1 ns1 x2 ns2 hy hdm hx1 hn1 hx2 hn2
   have hlx:=aV hx1
   obtain⟨l',h1,h2⟩:=xb (op:=op) (y:=y) (ns:=ns2) (by omega) hx2
   exact kj (A1 hd0 (by omega) (by omega) hn1) hdm hx1 h2 h1 hn2
  have good : ∀(y:List Int) (x1 x2:aj) (ns:List ab),y.length=kids.length+1→bl x1=bl x2→x1 <:+ bl l1→x2 <:+ bl l1→dN ns=true→ns.length≤60 →
    oq s (bl l1) 5 (A0 op deep y (ba x1) false ns) (Eb op y (ba s) (at' s x2) false ns):=by
   intro y x1 x2 ns hy hbx hx1 hx2 ho hn
   have hlx:=aV hx1
   have hblx:=aV (aH x1)
   have hx2s:=an hx2 hms
   have c41 : ¬(41:UInt8)=44:=by decide
   have c44 : ¬(44:UInt8)=41:=by decide
   unfold A0 Eb
   rw[show(⟨#[44]⟩:aa_)=ba [44] from rfl,show(⟨#[41]⟩:aa_)=ba [41] from rfl,da (by omega),jk (by omega) (by decide) hx2s]
   simp only[ab_,io (c:=44) (.inr (.inr (.inr (.inl rfl)))),gM,ii,ad_,bm_,bt_,lm,←hbx]
   by_cases h44:(bl x1).head? = some 44
   ·have h41 : ¬(bl x1).head? = some 41:=by rw[h44]; simp
    simp only[h44,h41,ck_,cy_,bc_,ak_,av_,ba_,bd_,c44]
    rw[jk (by omega) (by decide) (an (aH x1) (an hx1 hms))]
    simp only[ab_,bm_,bt_,lm,dF,h44,ck_,ba_,bc_,ak_,av_,ad_]
    have hlt:=pg h44
    have hb2:=aV (aH ((bl x1).drop 1))
    have hsx:(bl x1).drop 1 <:+ bl l1:=an (iG x1) hx1
    exact(ih _ (by omega) _ _ rfl rfl (an hsx hms) (an hsx hms) (by omega) op deep y ns hd0 (by omega) (by omega) ho hn).mono (an (aH _) hsx)
   ·simp only[h44,cy_,bm_,ba_,av_,ak_]
    rw[da (by omega)]
    simp only[ab_,io (c:=41) (.inr (.inr (.inl rfl))),dF,ad_]
    by_cases h41:(bl x1).head? = some 41
    ·simp only[h41,ck_,ba_,bc_]
     have hsx:(bl x1).drop 1 <:+ bl l1:=an (iG x1) hx1
     exact rD (Ij (by omega)) rfl hsx hsx hms ho hn
    ·simp only[h41,cy_,av_,bm_,ak_]
     rw[jk (by omega) (by decide) (an (aH x1) (an hx1 hms))]
     simp only[ab_,bm_,bt_,lm,dF,h44,cy_,ba_,ak_,av_]
     have hsx:bl x1 <:+ bl l1:=an (aH x1) hx1
     exact kj (fq hn (Ij (by omega))) (Ik ho) hsx Ly (an hsx hms) (by omega)
  by_cases ha:BH (bl l1)=true
  ·rw[ae_ ha,ae_ ha]
   have hX:(kq (bl l1)).dropWhile bb <:+ bl l1:=by
    have:=JK (bl l1)
    rw[dF] at this
    exact this
   cases h2:(cU ((kq (bl l1)).takeWhile bb)).2 with
   | true =>
    simp only[bc_,ba_]
    refine rE (rD (m:=bl l1) rfl rfl hX hX hms ho hns) ?_ ?_
    ·intro i x1 x2 ns' e1 e2 e3 e4 e5 _
     simp only
     rw[bi (by simp only[ad_]; omega),bi (by simp only[ad_]; omega)]
     exact good _ _ _ _ (by simp) e1 e2 e3 e4 e5
    ·intro i x1 b1 ns1 j x2 ns2 e1 e2 e3 e4 e5
     simp only
     rw[bi (by simp only[ad_]; omega),bi (by simp only[ad_]; omega)]
     have:kids++[i]=kids++[i]:=rfl
     by_cases hij:i=j
     ·subst hij
      exact doom _ _ _ _ _ _ (by simp) e1 e2 e3 e4 e5
     ·obtain⟨l',h1,h2⟩:=xb (op:=op) (y:=kids++[j]) (ns:=ns2) (by omega) e4
      have hlx:=aV e2
      exact kj (A1 hd0 (by omega) (by simp only[af_,ad_]; omega) e3) e1 e2 h2 h1 e5
   | false =>
    simp only[bm_,ak_,av_]
    obtain⟨i,h3,_⟩:=zy (x:=nA (cU ((bl l1).takeWhile bb)).1 (cU ((kq (bl l1)).takeWhile bb)).1) (l:=(kq (bl l1)).dropWhile bb) (b:=true) hns
    rw[h3]
    simp only[ab_,Bool.true_eq_false,false_and,av_,Bool.true_or]
    rw[bi (by simp only[ad_]; omega),bi (by simp only[ad_]; omega)]
    obtain⟨l',h1,h2⟩:=xb (op:=op) (y:=kids++[0]) (ns:=ns) (by omega) (an hX hms)
    have hlx:=aV hX
    exact kj (A1 hd0 (by omega) (by simp only[af_,ad_]; omega) hns) (Ik ho) hX h2 h1 (by omega)
  ·rw[ac_ ha,ac_ ha,wr (by omega) (by omega)]
   refine rE (HB l1 (bl l1) (dF l1).symm hs1 hms hn 1 (deep+1) ns (by decide) (by decide) (by omega) (by omega) ho hns) ?_ ?_
   ·intro i x1 x2 ns' e1 e2 e3 e4 e5 _
    simp only
    rw[bi (by simp only[ad_]; omega),bi (by simp only[ad_]; omega)]
    exact good _ _ _ _ (by simp) e1 e2 e3 e4 e5
   ·intro i x1 b1 ns1 j x2 ns2 e1 e2 e3 e4 e5
    simp only
    rw[bi (by simp only[ad_]; omega),bi (by simp only[ad_]; omega)]
    obtain⟨l',h1,h2⟩:=xb (op:=op) (y:=kids++[j]) (ns:=ns2) (by omega) e4
    have hlx:=aV e2
    exact kj (A1 hd0 (by omega) (by simp only[af_,ad_]; omega) e3) e1 e2 h2 h1 e5
end Go.Proofs.YthbkdfcmjmmpgaaGreatDoor.Abs
