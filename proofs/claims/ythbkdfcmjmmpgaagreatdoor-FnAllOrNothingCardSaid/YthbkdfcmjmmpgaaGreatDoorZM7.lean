/- Plain laws: a formula's signs and words, as both sides read them. -/
import Derived.Test.YthbkdfcmjmmpgaaGreatDoorZM6
import Derived.Lib.IndexBytes
set_option linter.unusedVariables false
set_option linter.unusedSimpArgs false
set_option linter.unusedSectionVars false
open Bool renaming and_eq_true→ah_,eq_false_iff→cm_,eq_iff_iff→bw_,false_eq_true→aj_,false_or→ct_,not_false→bm_,not_true→bc_,or_eq_true→cx_,true_and→bv_
open ByteArray renaming toList→ag_
open Int renaming toNat_of_nonneg→dr_
open List renaming all_append→ee_,append_nil→bx_,cons_append→eg_,dropWhile_cons_of_neg→dg_,dropWhile_cons_of_pos→fp_,dropWhile_suffix→gm_,drop_append→gn_,drop_succ_cons→bz_,drop_zero→cu_,find?_cons→ef_,getD→au_,head?_cons→db_,isPrefixOf_iff_prefix→eh_,length_append→ae_,length_cons→ak_,length_drop→dk_,length_singleton→ac_,length→al_,mem_cons→bb_,prefix_iff_eq_take→gz_,prefix_refl→dl_,takeWhile_cons_of_neg→fo_,take_append→fs_,take_left'→gu_
open Nat renaming le_trans→bn_
open Option renaming bind_some→ab_,map_eq_some_iff→cy_
open Option.some renaming injEq→bg_,inj→cb_
open _root_ renaming ByteArray→aa_,absurd→bk_,beq_iff_eq→bt_,decide_eq_false→be_,decide_eq_true_eq→ai_,decide_eq_true→bd_,decide_false→cr_,decide_true→ch_,if_false→aw_,if_neg→ad_,if_pos→af_,if_true→ba_
namespace Go.Proofs.YthbkdfcmjmmpgaaGreatDoor.Abs
open Go
def Y1 (c:UInt8):Bool:=decide (c=32)
def bl (l:ap):ap:=l.dropWhile Y1
def br (c:UInt8):Bool:=fH c || dw c || decide (c=36)
theorem aaS:(fun c=>([32]:ap).contains c)=Y1:=funext fun c=>CO (p:=fun c=>([32]:ap).contains c=Y1 c) (by decide +kernel) c
theorem aaT:(fun c=>([65,66,67,68,69,70,71,72,73,74,75,76,77,78,79,80,81,82,83,84,85,86,87,88,89,90,48,49,50,51,52,53,54,55,56,57,36]:ap).contains c)=br:=funext fun c=>CO (p:=fun c=>([65,66,67,68,69,70,71,72,73,74,75,76,77,78,79,80,81,82,83,84,85,86,87,88,89,90,48,49,50,51,52,53,54,55,56,57,36]:ap).contains c=br c) (by decide +kernel) c
theorem Hz (p:UInt8→Bool) : ∀ l:ap,(l.dropWhile p).dropWhile p=l.dropWhile p
 | []=>rfl
 | c :: l=>by
  cases h:p c with
  | true=>rw[fp_ h,Hz p l]
  | false =>
   have h' : ¬p c=true:=by rw[h]; decide
   rw[dg_ h',dg_ h']
theorem dP (l:ap):bl (bl l)=bl l:=Hz _ _
theorem aH (l:ap):bl l <:+ l:=gm_ _
theorem aR {a b:ap} (h:a <:+ b):a.length≤b.length:=h.length_le
theorem qz (l:ap) (b:Bool) (ns:List ab):iy (ba l) b ns=some ((),((ba (bl l),ns,b,()),())):=by
 rw[DP,show(⟨#[32]⟩:aa_)=ba [32] from rfl,xt _ _ (by decide +kernel),aaS]
 rfl
def Y2:List ap:=[[60,62],[60,61],[62,61],[60],[62],[61],[38],[43],[45],[42],[47],[40],[41],[44],[58]]
def sg (l:ap):ap:=(Y2.find? fun p=>p.isPrefixOf l).getD []
theorem HA {l:ap} {b:Bool} {ns:List ab} (hl:l.length≤1000) {X:List aa_} (hX:X.length≤100) : ∀(ys:List ap) (pre:List aa_),X=pre++ys.map (fun x=>ba x)→lS (X.length:Int) (pre.length:Int) (ba l) b X ns=some ((ba ((ys.find? fun p=>p.isPrefixOf l).getD []),()),((ba l,ns,b,()),()))
 | [],pre,h=>by
  rw[sC,aD (bj (by simpa using h))]
  rfl
 | y :: ys,pre,h=>by
  have h':X=pre++ba y :: ys.map (fun x=>ba x):=by simpa using h
  have hd:au_ X (Int.toNat (pre.length:Int)) (⟨#[]⟩:aa_)=ba y:=by rw[h']; exact eX
  rw[sC,aI (bA h'),gA h',hd,sI _ _ (by omega)]
  simp only[ab_,ef_]
  cases hy:y.isPrefixOf l with
  | true=>rfl
  | false =>
   simp only[aj_,aw_]
   rw[aK h' (by omega)]
   exact HA hl hX ys (pre++[ba y]) (by rw[h']; simp)
theorem Og {l:ap} {b:Bool} {ns:List ab} (hl:l.length≤1000):qc (ba l) b ns=some ((ba (sg (bl l)),()),((ba (bl l),ns,b,()),())):=by
 rw[G0,qz]
 simp only[ab_]
 have:=aR (aH l)
 exact HA (by omega) (by decide) Y2 [] rfl
theorem Oh (l:ap):(sg l).isPrefixOf l=true:=by
 unfold sg
 cases h:Y2.find? fun p=>p.isPrefixOf l with
 | none=>simp
 | some p =>
  have:=List.find?_some h
  simpa using this
theorem DF {p l:ap} (h:p.isPrefixOf l=true):p.length≤l.length:=(eh_.1 h).length_le
theorem et {l w:ap} {b:Bool} {ns:List ab} (hl:l.length≤1000):bS (ba w) (ba l) b ns=some ((decide (sg (bl l)=w),()),((ba (if sg (bl l)=w then(bl l).drop w.length else bl l),ns,b,()),())):=by
 rw[G1,Og hl]
 simp only[ab_,dG]
 by_cases h:sg (bl l)=w
 ·have:=DF (Oh (bl l))
  rw[h] at this
  simp only[h,ch_,bc_,aj_,aw_,ba_,aQ]
  rw[fW this]
 ·simp[h]
def gO (y:UInt8) (a b:Bool):Int:=if y=60 then(if a=true then 7 else if b=true then 9 else 8) else if y=62 then(if b=true then 11 else 10) else if y=61 then 6 else if y=38 then 5 else if y=43 then 1 else if y=45 then 2 else if y=42 then 3 else if y=47 then 4 else 0
def gS (y:UInt8) (a b:Bool):ap:=if y=60 then(if a=true then [60,62] else if b=true then [60,61] else [60]) else if y=62 then(if b=true then [62,61] else [62]) else if y=61 then [61] else if y=38 then [38] else if y=43 then [43] else if y=45 then [45] else if y=42 then [42] else if y=47 then [47] else if y=40 then [40] else if y=41 then [41] else if y=44 then [44] else if y=58 then [58] else []
def gd (l:ap):Int:=match l with
 | []=>0
 | y :: t=>gO y (decide (t.head? = some 62)) (decide (t.head? = some 61))
def eJ (k:Int):ap:=([[],[43],[45],[42],[47],[38],[61],[60,62],[60],[60,61],[62],[62,61]]:List ap).getD k.toNat []
theorem I0 (y:UInt8) (t:ap):sg (y :: t)=gS y (decide (t.head? = some 62)) (decide (t.head? = some 61)):=by
 unfold sg Y2
 simp only[ef_,List.find?_nil,gQ,Fv]
 generalize decide (t.head? = some 62)=a
 generalize decide (t.head? = some 61)=b
 have : ∀ a b:Bool,(Option.getD (match decide (y=60) && a with | true=>some [60,62] | false=>match decide (y=60) && b with | true=>some [60,61] | false=>match decide (y=62) && b with | true=>some [62,61] | false=>match decide (y=60) with | true=>some [60] | false=>match decide (y=62) with | true=>some [62] | false=>match decide (y=61) with | true=>some [61] | false=>match decide (y=38) with | true=>some [38] | false=>match decide (y=43) with | true=>some [43] | false=>match decide (y=45) with | true=>some [45] | false=>match decide (y=42) with | true=>some [42] | false=>match decide (y=47) with | true=>some [47] | false=>match decide (y=40) with | true=>some [40] | false=>match decide (y=41) with | true=>some [41] | false=>match decide (y=44) with | true=>some [44] | false=>match decide (y=58) with | true=>some [58] | false=>none) []:ap)=gS y a b :=
  CO (p:=fun y => ∀ a b:Bool,(Option.getD (match decide (y=60) && a with | true=>some [60,62] | false=>match decide (y=60) && b with | true=>some [60,61] | false=>match decide (y=62) && b with | true=>some [62,61] | false=>match decide (y=60) with | true=>some [60] | false=>match decide (y=62) with | true=>some [62] | false=>match decide (y=61) with | true=>some [61] | false=>match decide (y=38) with | true=>some [38] | false=>match decide (y=43) with | true=>some [43] | false=>match decide (y=45) with | true=>some [45] | false=>match decide (y=42) with | true=>some [42] | false=>match decide (y=47) with | true=>some [47] | false=>match decide (y=40) with | true=>some [40] | false=>match decide (y=41) with | true=>some [41] | false=>match decide (y=44) with | true=>some [44] | false=>match decide (y=58) with | true=>some [58] | false=>none) []:ap)=gS y a b) (by decide +kernel) y
 exact this a b
theorem n7 {c:UInt8} (hc:c=45∨c=40∨c=41∨c=44∨c=58) (l:ap):(sg l=[c])=(l.head? = some c):=by
 apply propext
 constructor
 ·intro h
  have:=Oh l
  rw[h,Fu] at this
  exact of_decide_eq_true this
 ·intro h
  cases l with
  | nil=>cases h
  | cons y t =>
   simp only[db_,bg_] at h
   subst h
   rw[I0]
   rcases hc with rfl | rfl | rfl | rfl | rfl <;> rfl
def opS (s:ap):Int:=if eJ 11=s then 11 else if eJ 10=s then 10 else if eJ 9=s then 9 else if eJ 8=s then 8 else if eJ 7=s then 7 else if eJ 6=s then 6 else if eJ 5=s then 5 else if eJ 4=s then 4 else if eJ 3=s then 3 else if eJ 2=s then 2 else if eJ 1=s then 1 else 0
theorem Oi (y:UInt8) : ∀ a b:Bool,opS (gS y a b)=gO y a b∧(gO y a b≠0→gS y a b=eJ (gO y a b))∧0≤gO y a b∧gO y a b≤11 :=
 CO (p:=fun y => ∀ a b:Bool,opS (gS y a b)=gO y a b∧(gO y a b≠0→gS y a b=eJ (gO y a b))∧0≤gO y a b∧gO y a b≤11) (by decide +kernel) y
theorem aaV (l:ap):opS (sg l)=gd l:=by
 cases l with
 | nil=>decide
 | cons y t =>
  rw[I0]
  exact(Oi y _ _).1
theorem Ay {l:ap} (h:gd l≠0):sg l=eJ (gd l):=by
 cases l with
 | nil=>exact bk_ rfl h
 | cons y t =>
  rw[I0]
  exact(Oi y _ _).2.1 h
theorem sL (l:ap):0≤gd l∧gd l≤11:=by
 cases l with
 | nil=>decide
 | cons y t=>exact(Oi y _ _).2.2
theorem Az {k:Int} (h0:0≤k) (h1:k≤11):yk k=some ((ba (eJ k),()),()):=by
 rw[S7,bI h0 (by show k < 12; omega)]
 have : ∀ k:Fin 12,au_ ([(⟨#[]⟩:aa_),(⟨#[43]⟩:aa_),(⟨#[45]⟩:aa_),(⟨#[42]⟩:aa_),(⟨#[47]⟩:aa_),(⟨#[38]⟩:aa_),(⟨#[61]⟩:aa_),(⟨#[60,62]⟩:aa_),(⟨#[60]⟩:aa_),(⟨#[60,61]⟩:aa_),(⟨#[62]⟩:aa_),(⟨#[62,61]⟩:aa_)]:(List aa_)) k.val (⟨#[]⟩:aa_)=ba (eJ (k.val:Int)):=by decide +kernel
 have h:=this ⟨k.toNat,by omega⟩
 simp only[dr_ h0] at h
 rw[h]
theorem tU {k:Int} (h0:0≤k) (h1:k≤11):lA k=some ((ba (eJ k),()),()):=by
 rw[SU,bI h0 (by show k < 12; omega)]
 have : ∀ k:Fin 12,au_ ([(⟨#[]⟩:aa_),(⟨#[43]⟩:aa_),(⟨#[45]⟩:aa_),(⟨#[42]⟩:aa_),(⟨#[47]⟩:aa_),(⟨#[38]⟩:aa_),(⟨#[61]⟩:aa_),(⟨#[60,62]⟩:aa_),(⟨#[60]⟩:aa_),(⟨#[60,61]⟩:aa_),(⟨#[62]⟩:aa_),(⟨#[62,61]⟩:aa_)]:(List aa_)) k.val (⟨#[]⟩:aa_)=ba (eJ (k.val:Int)):=by decide +kernel
 have h:=this ⟨k.toNat,by omega⟩
 simp only[dr_ h0] at h
 rw[h]
theorem KE {least deep left op k:Int} {l:ap} {b:Bool} {ns:List ab} (hl:l.length≤1000) (h0:0≤k) (h1:k≤11) :
  cy least deep left op k (ba l) b ns=cy least deep left (if eJ k=sg (bl l) then k else op) (k+1) (ba (bl l)) b ns:=by
 rw[qo,aI h1,Og hl]
 simp only[ab_]
 rw[Az h0 h1]
 simp only[ab_,dG,ai_]
 rw[wr (by omega) (by omega)]
 by_cases h:sg (bl l)=eJ k
 ·rw[af_ h,af_ h.symm]
 ·rw[ad_ h,ad_ (Ne.symm h)]
theorem FB {least deep left:Int} {l:ap} {b:Bool} {ns:List ab} (hl:l.length≤1000) :
  cy least deep left 0 1 (ba l) b ns=cy least deep left (gd (bl l)) 12 (ba (bl l)) b ns:=by
 have:=aR (aH l)
 have st : ∀(op k:Int),0≤k→k≤11→cy least deep left op k (ba (bl l)) b ns=cy least deep left (if eJ k=sg (bl l) then k else op) (k+1) (ba (bl l)) b ns:=by
  intro op k h0 h1
  rw[KE (by omega) h0 h1,dP]
 rw[KE hl (by decide) (by decide),st _ (1+1) (by decide) (by decide),st _ (1+1+1) (by decide) (by decide),st _ (1+1+1+1) (by decide) (by decide),st _ (1+1+1+1+1) (by decide) (by decide),st _ (1+1+1+1+1+1) (by decide) (by decide),
  st _ (1+1+1+1+1+1+1) (by decide) (by decide),st _ (1+1+1+1+1+1+1+1) (by decide) (by decide),st _ (1+1+1+1+1+1+1+1+1) (by decide) (by decide),st _ (1+1+1+1+1+1+1+1+1+1) (by decide) (by decide),st _ (1+1+1+1+1+1+1+1+1+1+1) (by decide) (by decide)]
 rw[←aaV (bl l)]
 rfl
def at' (s l:ap):Int:=(s.length:Int) - (l.length:Int)
theorem oU {s l:ap} (h:l <:+ s) : ∃ pre,s=pre++l∧at' s l=(pre.length:Int):=by
 obtain⟨pre,h⟩:=h
 refine⟨pre,h.symm,?_⟩
 unfold at'
 rw[←h,ae_]
 omega
theorem HC {s:ap} {b:Bool} {ns:List ab} (hs:s.length≤1000) : ∀(l:ap),l <:+ s→lR (ba s) (at' s l) b ns=some ((),((ba s,at' s (bl l),b,ns,()),()))
 | [],h=>by
  rw[sB,aD (by rw[aQ]; unfold at'; simp)]
  rfl
 | c :: l,h=>by
  obtain⟨pre,h1,h2⟩:=oU h
  have hl:pre.length < s.length:=by rw[h1]; simp
  rw[sB,h2,aI (by rw[aQ]; omega),lv h1]
  by_cases hc:c=32
  ·subst hc
   have hl':l <:+ s:=List.IsSuffix.trans (List.suffix_cons _ _) h
   rw[af_ (by rfl),wr (by omega) (by omega)]
   have e:(pre.length:Int)+1=at' s l:=by
    rw[←h2]
    unfold at'
    rw[ak_]
    omega
   rw[e,HC hs l hl']
   rfl
  ·have h0' : ¬((c.toNat:Int) == 32)=true:=by
    simp only[bt_]
    intro e
    apply hc
    apply UInt8.toNat_inj.1
    show c.toNat=32
    omega
   rw[ad_ h0',←h2]
   have:bl (c :: l)=c :: l:=dg_ (by simp[Y1,hc])
   rw[this]
theorem Oj {s l:ap} {b:Bool} {ns:List ab} (hs:s.length≤1000) (h:l <:+ s):j9 (ba s) (at' s l) b ns=some ((),((ba s,at' s (bl l),b,ns,()),())):=by
 rw[GX]
 exact HC hs l h
theorem an {a b c:ap} (h:a <:+ b) (k:b <:+ c):a <:+ c:=List.IsSuffix.trans h k
theorem gb (n:Nat) (l:ap):l.drop n <:+ l:=List.drop_suffix n l
theorem i7 {s l w:ap} {b:Bool} {ns:List ab} (hs:s.length≤1000) (hw:w.length≤1000) (h:l <:+ s) :
  dQ (ba w) (ba s) (at' s l) b ns=some (((!b && w.isPrefixOf (bl l)),()),((ba s,at' s (if(!b && w.isPrefixOf (bl l))=true then(bl l).drop w.length else bl l),b,ns,()),())):=by
 have hb:=an (aH l) h
 rw[PU,Oj hs h]
 simp only[ab_]
 cases b with
 | true=>rfl
 | false =>
  simp only[aj_,aw_,bm_,bv_,aQ]
  generalize bl l=m at hb
  obtain⟨pre,h1,h2⟩:=oU hb
  have hl:pre.length+m.length=s.length:=by rw[h1]; simp
  rw[h2,wr (by omega) (by omega)]
  by_cases hm:w.length≤m.length
  ·rw[aD (by omega),show(pre.length:Int)+(w.length:Int)=((pre.length+w.length:Nat):Int) by omega,yU (by omega) (by omega),dG]
   have e:(s.take (pre.length+w.length)).drop pre.length=m.take w.length:=by
    rw[h1,fs_,gn_]
    simp
   rw[e]
   have e2:decide (m.take w.length=w)=w.isPrefixOf m:=by
    rw[bw_,ai_,eh_,gz_]
    exact eq_comm
   rw[e2]
   cases w.isPrefixOf m with
   | true =>
    simp only[bc_,aj_,aw_,ba_]
    have e5:((pre.length+w.length:Nat):Int)=at' s (m.drop w.length):=by
     unfold at'
     rw[dk_]
     omega
    rw[e5]
   | false =>
    simp only[bm_,ba_,aj_,aw_]
    rw[h2]
  ·rw[aI (by omega)]
   have e2:w.isPrefixOf m=false:=by
    rw[cm_]
    intro hp
    exact hm (DF hp)
   rw[e2]
   simp only[aj_,aw_]
   rw[h2]
theorem AA {l:ap} {b:Bool} {ns:List ab} (hl:l.length≤1000):kf (ba l) b ns=some ((ba ((bl l).takeWhile br),()),((ba ((bl l).dropWhile br),ns,b,()),())):=by
 have:=aR (aH l)
 obtain⟨d1,d2,d3⟩:=CN br (bl l)
 rw[G2,qz]
 simp only[ab_]
 rw[xt _ _ (by decide +kernel),aaT]
 simp only[ab_,aQ]
 rw[wr (by omega) (by omega),show((bl l).length:Int) - (((bl l).dropWhile br).length:Int)=(((bl l).length - ((bl l).dropWhile br).length:Nat):Int) by omega,Hr (by omega),fW (by omega),d1,d2]
theorem KF {s pre l:ap} {w:Nat} {b:Bool} {ns:List ab} (h:s=pre++l) (hw:w≤pre.length) :
  (vU (ba s) (w:Int) (pre.length:Int) fun y6=>(some ((y6,()),((ba s,(pre.length:Int),b,ns,()),()))))=(some ((ba (pre.drop w),()),((ba s,at' s l,b,ns,()),())):Option ((aa_×Unit)×(lz×Unit))):=by
 have hl:pre.length+l.length=s.length:=by rw[h]; simp
 rw[yU hw (by omega)]
 congr 3
 ·congr 1
  rw[h,gu_ rfl]
 ·unfold at'
  congr 3
  omega
theorem HD {s:ap} {b:Bool} {ns:List ab} (hs:s.length≤1000) {w:Nat} : ∀(l pre:ap),s=pre++l→w≤pre.length→dU (w:Int) (ba s) (pre.length:Int) b ns=some ((ba (pre.drop w++l.takeWhile br),()),((ba s,at' s (l.dropWhile br),b,ns,()),()))
 | [],pre,h,hw=>by
  have hl:pre.length=s.length:=by rw[h]; simp
  rw[va,aD (by rw[aQ]; omega)]
  simpa using KF (b:=b) (ns:=ns) h hw
 | y :: l,pre,h,hw=>by
  have hl:pre.length < s.length:=by rw[h]; simp
  have ih:=HD (b:=b) (ns:=ns) hs (w:=w) l (pre++[y]) (by rw[h]; simp) (by rw[ae_]; omega)
  rw[show((pre++[y]).length:Int)=(pre.length:Int)+1 by simp,List.drop_append_of_le_length hw] at ih
  have he:=KF (b:=b) (ns:=ns) h hw
  rw[va,aI (by rw[aQ]; omega)]
  simp only[lv h]
  rw[wr (by omega) (by omega)]
  have h36:((y.toNat:Int) == 36)=decide (y=36):=by
   rw[bw_,bt_,ai_]
   constructor
   ·intro e
    apply UInt8.toNat_inj.1
    show y.toNat=36
    omega
   ·rintro rfl
    rfl
  rw[h36]
  cases hy:br y with
  | true =>
   have e1:(y :: l).takeWhile br=y :: l.takeWhile br:=List.takeWhile_cons_of_pos hy
   have e2:(y :: l).dropWhile br=l.dropWhile br:=fp_ hy
   rw[e1,e2]
   have e3:pre.drop w++y :: l.takeWhile br=pre.drop w++[y]++l.takeWhile br:=by simp
   rw[e3,←ih]
   simp only[br,fH,dw,cx_,ah_,ai_] at hy
   by_cases c1:65≤y.toNat
   ·rw[aI (by omega)]
    by_cases c2:y.toNat≤90
    ·rw[aI (by omega)]
    ·rw[aD (by omega),aI (by omega),aD (by omega)]
     exfalso
     rcases hy with(hy | hy) | rfl
     ·omega
     ·omega
     ·exact bk_ c1 (by decide)
   ·rw[aD (by omega)]
    by_cases c3:48≤y.toNat
    ·rw[aI (by omega)]
     by_cases c4:y.toNat≤57
     ·rw[aI (by omega)]
     ·rw[aD (by omega)]
      exfalso
      rcases hy with(hy | hy) | rfl
      ·omega
      ·omega
      ·exact bk_ c3 (by decide)
    ·rw[aD (by omega)]
     have:y=36:=by
      rcases hy with(hy | hy) | hy
      ·omega
      ·omega
      ·exact hy
     rw[aI this]
  | false =>
   have e1:(y :: l).takeWhile br=[]:=fo_ (by rw[hy]; decide)
   have e2:(y :: l).dropWhile br=y :: l:=dg_ (by rw[hy]; decide)
   rw[e1,e2,bx_,←he]
   simp only[br,fH,dw,Bool.or_eq_false_iff,Bool.and_eq_false_iff,decide_eq_false_iff_not] at hy
   obtain⟨⟨k1,k2⟩,k3⟩:=hy
   by_cases c1:65≤y.toNat
   ·rw[aI (by omega),aD (by omega),aI (by omega),aD (by omega),aD k3]
   ·rw[aD (by omega)]
    by_cases c3:48≤y.toNat
    ·rw[aI (by omega),aD (by omega),aD k3]
    ·rw[aD (by omega),aD k3]
theorem FC {s l:ap} {b:Bool} {ns:List ab} (hs:s.length≤1000) (h:l <:+ s):mW (ba s) (at' s l) b ns=some ((ba (l.takeWhile br),()),((ba s,at' s (l.dropWhile br),b,ns,()),())):=by
 obtain⟨pre,h1,h2⟩:=oU h
 rw[Lm,h2,HD hs l pre h1 (Nat.le_refl _)]
 simp
def dL (k:Int):Int:=if k≥6 then 1 else if k=5 then 2 else if k≥3 then 4 else 3
theorem xx (k:Int):uP k=some ((dL k,()),()):=by
 rw[PY]
 unfold dL
 simp only[ai_,bt_]
 repeat' split
 all_goals first | rfl | omega
theorem KG {k:Int} (h0:1≤k) (h1:k≤11):Ci k=some ((dL k,()),()):=by
 rw[Vq]
 unfold dL
 simp only[bt_]
 repeat' split
 all_goals first | rfl | omega
abbrev vw:List Int:=[7,9,11,6,8,10,1,2,3,4,5]
def Bj (L:Int) (m:ap) (k:Int):Bool:=decide (dL k=L) && (eJ k).isPrefixOf m
theorem DG (k:Int):(eJ k).length≤2:=by
 unfold eJ
 have : ∀ i:Nat,(([[],[43],[45],[42],[47],[38],[61],[60,62],[60],[60,61],[62],[62,61]]:List ap).getD i []).length≤2:=by
  intro i
  by_cases hi:i < 12
  ·have h : ∀ j:Fin 12,(([[],[43],[45],[42],[47],[38],[61],[60,62],[60],[60,61],[62],[62,61]]:List ap).getD j.val []).length≤2:=by decide
   exact h ⟨i,hi⟩
  ·rw[List.getD_eq_getElem?_getD,List.getElem?_eq_none (by simp; omega)]
   simp
 exact this _
section
variable {s:ap} {ns:List ab} {L:Int}
def AB (s l l':ap) (ns:List ab):Option Int→Option ((Int×Unit)×(lz×Unit))
 | some k=>some ((k,()),((ba s,at' s ((bl l).drop (eJ k).length),false,ns,()),()))
 | none=>some ((0,()),((ba s,at' s l',false,ns,()),()))
theorem aaW {pre ys:List Int} {k:Int} (h:vw=pre++k :: ys):au_ vw (Int.toNat (pre.length:Int)) 0=k:=by rw[h]; exact eX
theorem KH {k:Int} (h:k∈vw):1≤k∧k≤11:=by
 have : ∀ k∈vw,1≤k∧k≤11:=by decide
 exact this k h
theorem C2 (hs:s.length≤1000) : ∀(ys pre:List Int) (l:ap),vw=pre++ys→l <:+ s → ∃ l',(l'=l∨l'=bl l)∧mn L (pre.length:Int) (ba s) (at' s l) false vw ns=AB s l l' ns (ys.find? (Bj L (bl l)))
 | [],pre,l,h,hl=>by
  refine⟨l,.inl rfl,?_⟩
  rw[wA,aD (bj h)]
  rfl
 | k :: ys,pre,l,h,hl=>by
  have hk:=KH (k:=k) (by rw[h]; simp)
  rw[wA,aI (bA h),gA h,aaW h,xx]
  simp only[ab_,ef_,bt_]
  by_cases hL:dL k=L
  ·rw[af_ hL,gA h,tU (by omega) (by omega)]
   simp only[ab_]
   have:=DG k
   rw[i7 hs (by omega) hl]
   simp only[ab_,bm_,bv_]
   cases hp:(eJ k).isPrefixOf (bl l) with
   | true =>
    simp only[ba_,Bj,hL,ch_,bv_,hp]
    rw[gA h]
    exact⟨l,.inl rfl,rfl⟩
   | false =>
    simp only[aj_,aw_,Bj,hL,ch_,bv_,hp]
    rw[aK h (by decide)]
    obtain⟨l',h1,h2⟩:=C2 hs ys (pre++[k]) (bl l) (aB h) (an (aH l) hl)
    rw[dP] at h1 h2
    refine⟨l',.inr (by simpa using h1),?_⟩
    rw[h2]
    unfold AB
    rw[dP]
  ·rw[ad_ hL,aK h (by decide)]
   obtain⟨l',h1,h2⟩:=C2 hs ys (pre++[k]) l (aB h) hl
   refine⟨l',h1,?_⟩
   rw[h2]
   simp[Bj,hL]
theorem Ol (hs:s.length≤1000) : ∀(ys pre:List Int) (l:ap),vw=pre++ys→l <:+ s → ∃ l',(l'=l∨l'=bl l)∧rY L (pre.length:Int) (ba s) (at' s l) false ns vw=AB s l l' ns (ys.find? (Bj L (bl l)))
 | [],pre,l,h,hl=>by
  refine⟨l,.inl rfl,?_⟩
  rw[yC,aD (bj h)]
  rfl
 | k :: ys,pre,l,h,hl=>by
  have hk:=KH (k:=k) (by rw[h]; simp)
  rw[yC,aI (bA h),gA h,aaW h,xx]
  simp only[ab_,ef_,bt_]
  by_cases hL:dL k=L
  ·rw[af_ hL,gA h,tU (by omega) (by omega)]
   simp only[ab_]
   have:=DG k
   rw[i7 hs (by omega) hl]
   simp only[ab_,bm_,bv_]
   cases hp:(eJ k).isPrefixOf (bl l) with
   | true =>
    simp only[ba_,Bj,hL,ch_,bv_,hp]
    rw[gA h]
    exact⟨l,.inl rfl,rfl⟩
   | false =>
    simp only[aj_,aw_,Bj,hL,ch_,bv_,hp]
    rw[aK h (by decide)]
    obtain⟨l',h1,h2⟩:=C2 (L:=L) (ns:=ns) hs ys (pre++[k]) (bl l) (aB h) (an (aH l) hl)
    rw[dP] at h1 h2
    refine⟨l',.inr (by simpa using h1),?_⟩
    rw[h2]
    unfold AB
    rw[dP]
  ·rw[ad_ hL,aK h (by decide)]
   obtain⟨l',h1,h2⟩:=Ol hs ys (pre++[k]) l (aB h) hl
   refine⟨l',h1,?_⟩
   rw[h2]
   simp[Bj,hL]
end
theorem HE {α:Type} {p q:α→Bool} : ∀ {l:List α},(∀ x∈l,p x=q x)→l.find? p=l.find? q
 | [],_=>rfl
 | x :: l,h=>by
  rw[ef_,ef_,h x (by simp),HE (fun y hy=>h y (List.mem_cons_of_mem _ hy))]
def pS (k:Int) (y:UInt8) (a b:Bool):Bool:=if k=7 then decide (y=60) && a else if k=9 then decide (y=60) && b else if k=11 then decide (y=62) && b else if k=6 then decide (y=61) else if k=8 then decide (y=60) else if k=10 then decide (y=62) else if k=1 then decide (y=43) else if k=2 then decide (y=45) else if k=3 then decide (y=42) else if k=4 then decide (y=47) else decide (y=38)
theorem abE (y:UInt8) (t:ap) : ∀ k∈vw,(eJ k).isPrefixOf (y :: t)=pS k y (decide (t.head? = some 62)) (decide (t.head? = some 61)):=by
 intro k hk
 have:k=7∨k=9∨k=11∨k=6∨k=8∨k=10∨k=1∨k=2∨k=3∨k=4∨k=5:=by simpa using hk
 rcases this with rfl | rfl | rfl | rfl | rfl | rfl | rfl | rfl | rfl | rfl | rfl
 ·exact Fv y t 60 62
 ·exact Fv y t 60 61
 ·exact Fv y t 62 61
 ·exact gQ y t 61
 ·exact gQ y t 60
 ·exact gQ y t 62
 ·exact gQ y t 43
 ·exact gQ y t 45
 ·exact gQ y t 42
 ·exact gQ y t 47
 ·exact gQ y t 38
def fS (L:Int) (y:UInt8) (a b:Bool):Prop:=vw.find? (fun k=>decide (dL k=L) && pS k y a b)=if gO y a b≠0∧dL (gO y a b)=L then some (gO y a b) else none
instance (L:Int) (y:UInt8) (a b:Bool):Decidable (fS L y a b):=by unfold fS; infer_instance
theorem aaX (y:UInt8) : ∀ a b:Bool,fS 1 y a b∧fS 2 y a b∧fS 3 y a b∧fS 4 y a b :=
 CO (p:=fun y => ∀ a b:Bool,fS 1 y a b∧fS 2 y a b∧fS 3 y a b∧fS 4 y a b) (by decide +kernel) y
theorem X0 {L:Int} (hL:L=1∨L=2∨L=3∨L=4) (m:ap):vw.find? (Bj L m)=if gd m≠0∧dL (gd m)=L then some (gd m) else none:=by
 cases m with
 | nil =>
  have : ∀ k∈vw,(eJ k).isPrefixOf ([]:ap)=false:=by decide
  have h0:gd ([]:ap)=0:=rfl
  rw[h0,ad_ (by simp),List.find?_eq_none]
  intro k hk
  unfold Bj
  rw[this k hk,Bool.and_false]
  decide
 | cons y t =>
  have e:vw.find? (Bj L (y :: t))=vw.find? (fun k=>decide (dL k=L) && pS k y (decide (t.head? = some 62)) (decide (t.head? = some 61))):=HE fun k hk=>by
   unfold Bj
   rw[abE y t k hk]
  rw[e]
  obtain⟨h1,h2,h3,h4⟩:=aaX y (decide (t.head? = some 62)) (decide (t.head? = some 61))
  rcases hL with rfl | rfl | rfl | rfl
  ·exact h1
  ·exact h2
  ·exact h3
  ·exact h4
theorem aaY {s l:ap} {ns:List ab} {L:Int} (hs:s.length≤1000) (hL:L=1∨L=2∨L=3∨L=4) (h:l <:+ s) :
  ∃ l',(l'=l∨l'=bl l)∧E7 L (ba s) (at' s l) false ns=AB s l l' ns (if gd (bl l)≠0∧dL (gd (bl l))=L then some (gd (bl l)) else none):=by
 rw[PZ,←X0 hL]
 exact Ol hs vw [] l rfl h
theorem DH {x:ab} {l:ap} {b:Bool} {ns:List ab} (hn:ns.length≤60) :
  ∃ i,bq x (ba l) b ns=some ((i,()),((ba l,(if b=false∧ns.length < 60 then ns++[x] else ns),(b || decide (60≤ns.length)),()),()))∧(b=false→ns.length < 60→i=(ns.length:Int)):=by
 rw[IK]
 cases b with
 | true=>exact⟨_,rfl,fun h=>by cases h⟩
 | false =>
  simp only[aj_,aw_,true_and,ct_]
  by_cases h:ns.length < 60
  ·have e1:decide ((ns.length:Int)≥60)=false:=be_ (by omega)
   have e2:decide (60≤ns.length)=false:=be_ (by omega)
   rw[e1,e2,af_ h]
   simp only[bm_,ba_]
   have hl:(ns++[x]).length=ns.length+1:=by simp
   rw[bg (by simp only[ac_]; omega),wr (by omega) (by omega)]
   exact⟨_,rfl,fun _ _=>by omega⟩
  ·have e1:decide ((ns.length:Int)≥60)=true:=bd_ (by omega)
   have e2:decide (60≤ns.length)=true:=bd_ (by omega)
   rw[e1,e2,ad_ h]
   exact⟨_,rfl,fun _ h'=>bk_ h' h⟩
theorem I3 {x:ab} {s:ap} {a:Int} {b:Bool} {ns:List ab} (hn:ns.length≤1000) (hx:x.2.2.1.2.2.1.size≤9223372036854775807) :
  cm x (ba s) a b ns=some (((ns.length:Int),()),((ba s,a,(b || decide (60≤ns.length) || !dF x),ns++[x],()),())):=by
 rw[Nq,bg (by simp only[ac_]; omega)]
 have e:IntKind.i64.wrap (((ns++[x]).length:Int) - 1)=(ns.length:Int):=by
  rw[ae_,ac_,wr (by omega) (by omega)]
  omega
 rw[e,CK hx]
 simp only[ab_]
 by_cases h:60≤ns.length
 ·rw[aI (by rw[ae_,ac_]; omega)]
  simp[h]
 ·rw[aD (by rw[ae_,ac_]; omega)]
  cases dF x <;> simp[h]
theorem I4 (c:UInt8) (t:ap) : ∀ pre:ap,c ∉ pre→Lib.indexByte (pre++c :: t) c=(pre.length:Int)
 | [],_=>by simp[Lib.indexByte]
 | b :: pre,h=>by
  simp only[bb_,not_or] at h
  have hb : ¬b=c:=fun e=>h.1 e.symm
  have ih:=I4 c t pre h.2
  simp only[eg_,Lib.indexByte,ih]
  have : ¬((pre.length:Int) = -1):=by omega
  simp[hb,this]
theorem Om (c:UInt8) : ∀ pre:ap,c ∉ pre→Lib.indexByte pre c = -1
 | [],_=>rfl
 | b :: pre,h=>by
  simp only[bb_,not_or] at h
  have hb : ¬b=c:=fun e=>h.1 e.symm
  simp only[Lib.indexByte,Om c pre h.2]
  simp[hb]
theorem ZK {c:UInt8} {pre t:ap} (h:c ∉ pre):Lib.cut (pre++c :: t) [c]=(pre,t,true):=by
 unfold Lib.cut
 rw[Lib.index_one,I4 c t pre h,af_ (by omega)]
 simp only[Int.toNat_natCast,ac_,Prod.mk.injEq,and_true]
 refine⟨gu_ rfl,?_⟩
 have:pre++c :: t=(pre++[c])++t:=by simp
 rw[this,List.drop_left' (by simp)]
theorem X1 {c:UInt8} {s:ap} (h:c ∉ s):Lib.cut s [c]=(s,[],false):=by
 unfold Lib.cut
 rw[Lib.index_one,Om c s h,ad_ (by omega)]
theorem ZL {x c:ap} (hx:x.length < 4294967281):strings_Cut (ba x) (ba c)=some ((ba (Lib.cut x c).1,ba (Lib.cut x c).2.1,(Lib.cut x c).2.2,()),()):=by
 rw[IL]
 show(if(ba x).size < 4294967281 then some (((⟨(Lib.cut (lb (ba x)) (lb (ba c))).1.toArray⟩:aa_),(⟨(Lib.cut (lb (ba x)) (lb (ba c))).2.1.toArray⟩:aa_),(Lib.cut (lb (ba x)) (lb (ba c))).2.2,()),()) else none)=_
 rw[af_ (by rw[aQ]; exact hx),dy,dy]
theorem FD (c:UInt8) : ∀ s:ap,c∈s → ∃ pre t,s=pre++c :: t∧c ∉ pre
 | b :: s,h=>by
  by_cases hb:b=c
  ·exact⟨[],s,by rw[hb]; rfl,by simp⟩
  ·obtain⟨pre,t,h1,h2⟩:=FD c s (by rcases bb_.1 h with e | e; exact bk_ e.symm hb; exact e)
   exact⟨b :: pre,t,by rw[h1]; rfl,by simp only[bb_,not_or]; exact⟨Ne.symm hb,h2⟩⟩
def qt:ap→Option (ap×ap)
 | []=>none
 | c :: l=>if c=34 then(match l with
   | []=>some ([],[])
   | d :: l'=>if d=34 then(qt l').map (fun p=>(34 :: p.1,p.2)) else some ([],d :: l'))
  else(qt l).map fun p=>(c :: p.1,p.2)
theorem FE {c:UInt8} {l:ap} (h:c≠34):qt (c :: l)=(qt l).map fun p=>(c :: p.1,p.2):=by
 rw[qt.eq_def]
 simp only[ad_ h]
theorem Oo:qt [34]=some ([],[]):=by
 rw[qt.eq_def]
 rfl
theorem Oq {l:ap}:qt (34 :: 34 :: l)=(qt l).map fun p=>(34 :: p.1,p.2):=by
 rw[qt.eq_def]
 rfl
theorem I5 {d:UInt8} {l:ap} (h:d≠34):qt (34 :: d :: l)=some ([],d :: l):=by
 rw[qt.eq_def]
 simp only[ba_,ad_ h]
theorem Ot (l:ap) : ∀ pre:ap,(34:UInt8) ∉ pre→qt (pre++l)=(qt l).map fun p=>(pre++p.1,p.2)
 | [],_=>by simp
 | b :: pre,h=>by
  simp only[bb_,not_or] at h
  have hb : ¬b=34:=fun e=>h.1 e.symm
  rw[eg_,FE hb,Ot l pre h.2,Option.map_map]
  rfl
theorem ZM {s:ap} (h:(34:UInt8) ∉ s):qt s=none:=by
 have:=Ot [] s h
 rw[bx_] at this
 rw[this]
 rfl
theorem VX : ∀(l t r:ap),qt l=some (t,r)→r <:+ l∧t.length≤l.length∧r.length < l.length:=by
 intro l
 induction hn:l.length using Nat.strongRecOn generalizing l with
 | ind n ih =>
  intro t r h
  subst hn
  cases l with
  | nil=>cases h
  | cons c l =>
   by_cases hc:c=34
   ·subst hc
    cases l with
    | nil =>
     rw[Oo] at h
     cases h
     exact⟨⟨[34],rfl⟩,by simp,by simp⟩
    | cons d l' =>
     by_cases hd:d=34
     ·subst hd
      rw[Oq,cy_] at h
      obtain⟨⟨t',r'⟩,h1,h2⟩:=h
      cases h2
      obtain⟨k1,k2,k3⟩:=ih l'.length (by simp only[ak_]; omega) l' rfl t' r' h1
      refine⟨an k1 ⟨[34,34],rfl⟩,?_,?_⟩
      ·simp only[ak_]; omega
      ·simp only[ak_]; omega
     ·rw[I5 hd] at h
      cases h
      exact⟨⟨[34],rfl⟩,by simp,by simp⟩
   ·rw[FE hc,cy_] at h
    obtain⟨⟨t',r'⟩,h1,h2⟩:=h
    cases h2
    obtain⟨k1,k2,k3⟩:=ih l.length (by simp) l rfl t' r' h1
    refine⟨an k1 ⟨[c],rfl⟩,?_,?_⟩
    ·simp only[ak_]; omega
    ·simp only[ak_]; omega
abbrev nC (v:ac):ab:=(1,0,v,((0,0,()),false,false,()),((0,0,()),false,false,()),([]:(List Int)),())
noncomputable def iQ (out:ap) (r:aa_) (b:Bool) (ns:List ab):Option (ap×ap)→Option ((Int×Unit)×(q8×Unit))
 | none=>some ((-1,()),((r,ns,true,()),()))
 | some p=>cc (2,0,ba (out++p.1),()) (ba p.2) b ns
theorem DI {F:Option ((Int×Unit)×(q8×Unit))}:(F.bind fun z3=>(some ((z3.1.1,()),(z3.2.1,()))))=F:=by
 cases F with
 | none=>rfl
 | some z=>rfl
theorem g8 {F:Option ((Int×Unit)×(lz×Unit))}:(F.bind fun z3=>(some ((z3.1.1,()),(z3.2.1,()))))=F:=by
 cases F with
 | none=>rfl
 | some z=>rfl
theorem Ou {r:aa_} {b:Bool} {ns:List ab} : ∀(x out:ap),out.length+x.length≤1000→j0 (ba out) (ba x) r b ns=iQ out r b ns (qt x):=by
 intro x
 induction hn:x.length using Nat.strongRecOn generalizing x with
 | ind n ih =>
  intro out hl
  rw[Ai,show(⟨#[34]⟩:aa_)=ba [34] from rfl,ZL (by omega)]
  simp only[ab_]
  by_cases hm:(34:UInt8)∈x
  ·obtain⟨pre,t,h1,h2⟩:=FD 34 x hm
   have hx:x.length=pre.length+t.length+1:=by rw[h1]; simp; omega
   rw[h1,ZK h2,Ot _ pre h2]
   simp only[bc_,aj_,aw_]
   rw[bN (by omega),sI t [34] (by omega)]
   simp only[ab_,DI]
   cases t with
   | nil =>
    rw[Oo,show([34]:ap).isPrefixOf ([]:ap)=false from rfl]
    simp[iQ]
   | cons d l' =>
    by_cases hd:d=34
    ·subst hd
     rw[ak_] at hx
     have e1:([34]:ap).isPrefixOf (34 :: l')=true:=by rw[gQ]; rfl
     rw[e1]
     simp only[bc_,aj_,aw_]
     rw[bN (by simp only[ae_,ac_]; omega),show(1:Int)=((1:Nat):Int) from rfl,fW (by simp)]
     simp only[bz_,cu_]
     rw[ih l'.length (by omega) l' rfl (out++pre++[34]) (by simp only[ae_,ac_]; omega)]
     rw[Oq]
     cases qt l' with
     | none=>rfl
     | some p=>simp[iQ]
    ·have e1:([34]:ap).isPrefixOf (d :: l')=false:=by rw[gQ]; simp[hd]
     rw[e1]
     simp only[bm_,ba_]
     rw[I5 hd]
     simp[iQ]
  ·rw[X1 hm,ZM hm]
   rfl
theorem HF {l:ap} {b:Bool} {ns:List ab} (hl:l.length≤900):ke (ba (34 :: l)) b ns=iQ [] (ba (34 :: l)) b ns (qt l):=by
 rw[DQ,show(1:Int)=((1:Nat):Int) from rfl,fW (by simp)]
 exact Ou l [] (by simp; omega)
noncomputable def sQ (acc s:ap) (b:Bool) (ns:List ab):Option (ap×ap)→Option ((Int×Unit)×(lz×Unit))
 | none=>some ((0,()),((ba s,at' s [],true,ns,()),()))
 | some p=>cm (nC (2,0,ba (acc++p.1),())) (ba s) (at' s p.2) b ns
theorem TV {s:ap} {b:Bool} {ns:List ab} (hs:s.length≤900) : ∀(l acc:ap),l <:+ s→acc.length+l.length≤1000→lh (ba acc) (ba s) (at' s l) b ns=sQ acc s b ns (qt l):=by
 intro l
 induction hn:l.length using Nat.strongRecOn generalizing l with
 | ind n ih =>
  intro acc h ha
  subst hn
  rw[Fm]
  cases l with
  | nil =>
   rw[aD (by rw[aQ]; unfold at'; simp)]
   rfl
  | cons c l =>
   obtain⟨pre,h1,h2⟩:=oU h
   have hl:pre.length+l.length+1=s.length:=by rw[h1]; simp; omega
   rw[ak_] at ha
   have h':l <:+ s:=an ⟨[c],rfl⟩ h
   have e1:(pre.length:Int)+1=at' s l:=by
    unfold at'
    omega
   rw[h2,aI (by rw[aQ]; omega),lv h1,wr (by omega) (by omega)]
   by_cases hc:c=34
   ·subst hc
    have e34:(((34:UInt8).toNat:Int) != 34)=false:=rfl
    rw[e34,e1]
    simp only[aj_,aw_,g8]
    cases l with
    | nil =>
     rw[Oo,aI (by rw[aQ]; unfold at'; simp)]
     simp[sQ]
    | cons d l' =>
     obtain⟨Fv,k1,k2⟩:=oU h'
     have hl2:Fv.length+l'.length+1=s.length:=by rw[k1]; simp; omega
     rw[ak_] at ha
     have h'':l' <:+ s:=an ⟨[d],rfl⟩ h'
     have e2:(Fv.length:Int)+1=at' s l':=by
      unfold at'
      omega
     rw[k2,aD (by rw[aQ]; omega),lv k1]
     by_cases hd:d=34
     ·subst hd
      rw[e34,Oq]
      simp only[aj_,aw_]
      rw[show(⟨#[34]⟩:aa_)=ba [34] from rfl,bN (by simp only[ac_]; omega),wr (by omega) (by omega),e2,ih l'.length (by simp only[ak_]; omega) l' rfl (acc++[34]) h'' (by simp only[ae_,ac_]; omega)]
      cases qt l' with
      | none=>rfl
      | some p=>simp[sQ]
     ·have hd':((d.toNat:Int) != 34)=true:=by
       simp only[bne_iff_ne,ne_eq]
       intro e
       apply hd
       apply UInt8.toNat_inj.1
       show d.toNat=34
       omega
      rw[hd',I5 hd]
      simp only[ba_]
      rw[←k2]
      simp[sQ]
   ·have hc':((c.toNat:Int) != 34)=true:=by
     simp only[bne_iff_ne,ne_eq]
     intro e
     apply hc
     apply UInt8.toNat_inj.1
     show c.toNat=34
     omega
    rw[hc']
    simp only[ba_]
    rw[show(pre.length:Int)+1=((pre.length+1:Nat):Int) by omega,yU (by omega) (by omega)]
    have e3:(s.take (pre.length+1)).drop pre.length=[c]:=by
     rw[h1,fs_,gn_]
     simp
    rw[e3,bN (by simp only[ac_]; omega),show((pre.length+1:Nat):Int)=at' s l by omega,ih l.length (by simp) l rfl (acc++[c]) h' (by simp only[ae_,ac_]; omega)]
    rw[FE hc]
    cases qt l with
    | none=>rfl
    | some p=>simp[sQ]
theorem X2 {s l:ap} {b:Bool} {ns:List ab} (hs:s.length≤900) (h:l <:+ s):zO (ba s) (at' s l) b ns=sQ [] s b ns (qt l):=by
 rw[Ll]
 have:=aR h
 exact TV hs l [] h (by simp; omega)
def pA (n:Int):ap:=(lb (df n)).drop 1
abbrev zd:List Int:=[1,2,3,4,5]
def ze (l:ap) (n:Int):Bool:=(pA n).isPrefixOf l
theorem VY {pre ys:List Int} {k:Int} (h:zd=pre++k :: ys):k=(pre.length:Int)+1∧1≤k∧k≤5∧df k=ba (35 :: pA k)∧(pA k).length≤10:=by
 have h1:zd[pre.length]? = some k:=by rw[h]; simp
 have hl:pre.length < 5:=by
  have:(zd).length=5:=rfl
  have h2:=congrArg al_ h
  simp at h2
  omega
 have : ∀ i:Fin 5,∀ k,zd[i.val]? = some k→k=(i.val:Int)+1:=by
  intro i k h
  have : ∀ i:Fin 5,zd[i.val]? = some ((i.val:Int)+1):=by decide
  rw[this i] at h
  exact(cb_ h).symm
 have e:=this ⟨pre.length,hl⟩ k h1
 simp only at e
 have f : ∀ i:Fin 5,df ((i.val:Int)+1)=ba (35 :: pA ((i.val:Int)+1))∧(pA ((i.val:Int)+1)).length≤10:=by decide +kernel
 have:=f ⟨pre.length,hl⟩
 simp only at this
 rw[←e] at this
 exact⟨e,by omega,by omega,this.1,this.2⟩
theorem KI {deep:Int} {l:ap} {b:Bool} {ns:List ab} (hl:l.length≤900) : ∀(ys pre:List Int),zd=pre++ys→dD deep ((pre.length:Int)+1) (ba (35 :: l)) b ns=match ys.find? (ze l) with
  | some n=>cc (vE n) (ba (l.drop (pA n).length)) b ns
  | none=>dD deep 6 (ba (35 :: l)) b ns
 | [],pre,h=>by
  have:pre.length=5:=by
   rw[bx_] at h
   rw[←h]
   rfl
  rw[this]
  rfl
 | k :: ys,pre,h=>by
  obtain⟨e1,e2,e3,e4,e5⟩:=VY h
  rw[←e1,sD,aI e3,oq (by omega) e3]
  simp only[ab_]
  rw[e4,sJ _ _ (by rw[ak_]; omega)]
  simp only[ab_,ef_]
  have e6:(35 :: pA k:ap).isPrefixOf (35 :: l)=ze l k:=by simp[ze]
  rw[e6]
  cases hp:ze l k with
  | true =>
   simp only[ba_,gC,ab_,DI,ak_,bz_]
  | false =>
   simp only[aj_,aw_]
   rw[wr (by omega) (by omega)]
   have:=KI (deep:=deep) (b:=b) (ns:=ns) hl ys (pre++[k]) (aB h)
   rw[ae_,ac_] at this
   rw[show k+1=((pre.length+1:Nat):Int)+1 by omega]
   exact this
theorem KJ {s l:ap} {b:Bool} {ns:List ab} (hs:s.length≤900) (hl:l <:+ s) : ∀(ys pre:List Int),zd=pre++ys→jr ((pre.length:Int)+1) (ba s) (at' s l) b ns=match ys.find? (ze l) with
  | some n=>cm (nC (vE n)) (ba s) (at' s (l.drop (pA n).length)) b ns
  | none=>some ((0,()),((ba s,at' s l,true,ns,()),()))
 | [],pre,h=>by
  have:pre.length=5:=by
   rw[bx_] at h
   rw[←h]
   rfl
  rw[this,vc,aD (by decide)]
  rfl
 | k :: ys,pre,h=>by
  obtain⟨e1,e2,e3,e4,e5⟩:=VY h
  obtain⟨q,h1,h2⟩:=oU hl
  have hq:q.length+l.length=s.length:=by rw[h1]; simp
  rw[←e1,vc,aI e3,tP (by omega) e3]
  simp only[ab_]
  rw[e4,show(1:Int)=((1:Nat):Int) from rfl,fW (by simp)]
  simp only[bz_,cu_,aQ,ef_]
  have ih:=KJ (b:=b) (ns:=ns) hs hl ys (pre++[k]) (aB h)
  rw[ae_,ac_,show((pre.length+1:Nat):Int)+1=k+1 by omega] at ih
  have hw:IntKind.i64.wrap (k+((1:Nat):Int))=k+1:=wr (by omega) (by omega)
  rw[hw,h2,wr (by omega) (by omega)]
  by_cases hm:(pA k).length≤l.length
  ·rw[aI (by omega),show(q.length:Int)+((pA k).length:Int)=((q.length+(pA k).length:Nat):Int) by omega,yU (by omega) (by omega),dG]
   have e:(s.take (q.length+(pA k).length)).drop q.length=l.take (pA k).length:=by
    rw[h1,fs_,gn_]
    simp
   have e7:decide (l.take (pA k).length=pA k)=ze l k:=by
    unfold ze
    rw[bw_,ai_,eh_,gz_]
    exact eq_comm
   rw[e,e7]
   cases hp:ze l k with
   | true =>
    simp only[ba_,dA,ab_,g8]
    congr 1
    unfold at'
    rw[dk_]
    omega
   | false =>
    simp only[aj_,aw_]
    rw[←h2]
    exact ih
  ·rw[aD (by omega)]
   have hp:ze l k=false:=by
    rw[cm_]
    intro hp
    exact hm (DF hp)
   rw[hp,←h2]
   exact ih
def gD (k:Int):ap:=([[],[83,85,77],[77,73,78],[77,65,88],[67,79,85,78,84],[73,70],[65,78,68],[79,82],[78,79,84],[65,66,83],[76,69,78]]:List ap).getD k.toNat []
abbrev n8:List Int:=[1,2,3,4,5,6,7,8,9,10]
theorem VZ (k:Fin 11):au_ ([(⟨#[]⟩:aa_),(⟨#[83,85,77]⟩:aa_),(⟨#[77,73,78]⟩:aa_),(⟨#[77,65,88]⟩:aa_),(⟨#[67,79,85,78,84]⟩:aa_),(⟨#[73,70]⟩:aa_),(⟨#[65,78,68]⟩:aa_),(⟨#[79,82]⟩:aa_),(⟨#[78,79,84]⟩:aa_),(⟨#[65,66,83]⟩:aa_),(⟨#[76,69,78]⟩:aa_)]:(List aa_)) k.val (⟨#[]⟩:aa_)=ba (gD (k.val:Int)):=by
 revert k
 decide +kernel
theorem Ov {k:Int} (h0:0≤k) (h1:k≤10):LV k=some ((ba (gD k),()),()):=by
 rw[Xz,bI h0 (by show k < 11; omega)]
 have h:=VZ ⟨k.toNat,by omega⟩
 simp only[dr_ h0] at h
 rw[h]
theorem HG {k:Int} (h0:0≤k) (h1:k≤10):Dw k=some ((ba (gD k),()),()):=by
 rw[S6,bI h0 (by show k < 11; omega)]
 have h:=VZ ⟨k.toNat,by omega⟩
 simp only[dr_ h0] at h
 rw[h]
theorem V0 {pre ys:List Int} {k:Int} (h:n8=pre++k :: ys):k=(pre.length:Int)+1∧1≤k∧k≤10:=by
 have h1:n8[pre.length]? = some k:=by rw[h]; simp
 have hl:pre.length < 10:=by
  have h2:=congrArg al_ h
  simp at h2
  omega
 have : ∀ i:Fin 10,n8[i.val]? = some ((i.val:Int)+1):=by decide
 rw[this ⟨pre.length,hl⟩] at h1
 have e:=(cb_ h1).symm
 simp only at e
 exact⟨e,by omega,by omega⟩
theorem Ow {deep:Int} {w l:ap} {b:Bool} {ns:List ab} : ∀(ys pre:List Int),n8=pre++ys→dS deep (ba w) ((pre.length:Int)+1) (ba l) b ns=match ys.find? (fun k=>decide (gD k=w)) with
  | some k=>iO k deep (ba l) b ns
  | none=>some ((-1,()),((ba l,ns,true,()),()))
 | [],pre,h=>by
  have:pre.length=10:=by
   rw[bx_] at h
   rw[←h]
   rfl
  rw[this,qJ,aD (by decide)]
  rfl
 | k :: ys,pre,h=>by
  obtain⟨e1,e2,e3⟩:=V0 h
  rw[←e1,qJ,aI e3,HG (by omega) e3]
  simp only[ab_,dG,ef_,DI]
  by_cases hp:gD k=w
  ·rw[aI hp.symm]
   simp[hp]
  ·rw[aD (Ne.symm hp),wr (by omega) (by omega)]
   have:=Ow (deep:=deep) (w:=w) (l:=l) (b:=b) (ns:=ns) ys (pre++[k]) (aB h)
   rw[ae_,ac_,show((pre.length+1:Nat):Int)+1=k+1 by omega] at this
   rw[this]
   simp[hp]
noncomputable def rp (w s:ap) (a:Int) (b:Bool) (ns:List ab):Option ((Int×Unit)×(lz×Unit)) :=
 if(bJ w).2=true∧w≠[] then cm (nC (bJ w).1) (ba s) a b ns
 else if(cS w).2=true then cm (2,0,(0,0,(⟨#[]⟩:aa_),()),(cS w).1,((0,0,()),false,false,()),([]:(List Int)),()) (ba s) a b ns
 else some ((0,()),((ba s,a,true,ns,()),()))
theorem TW {w s:ap} {a:Int} {b:Bool} {ns:List ab} (hw:w.length≤1000):fE (ba w) 11 (ba s) a b ns=rp w s a b ns:=by
 rw[vd,aD (by decide),oz (by omega),tc (by omega)]
 simp only[ab_,g8]
 have e0:(ag_ (ba w) == ag_ (⟨#[]⟩:aa_))=decide (w=[]):=dG (b:=[])
 rw[e0]
 unfold rp
 cases (bJ w).2 <;> by_cases hw0:w=[] <;> cases (cS w).2 <;> simp[hw0]
theorem Ox {w s:ap} {ns:List ab} (hw:w.length≤1000) (hs:s.length≤900) : ∀(ys pre:List Int) (l:ap),n8=pre++ys→l <:+ s → ∃ l',(l'=l∨l'=bl l)∧fE (ba w) ((pre.length:Int)+1) (ba s) (at' s l) false ns=match ys.find? (fun k=>decide (gD k=w) && ([40]:ap).isPrefixOf (bl l)) with
  | some k=>zP k (ba s) (at' s ((bl l).drop 1)) false ns
  | none=>rp w s (at' s l') false ns
 | [],pre,l,h,hl=>by
  have:pre.length=10:=by
   rw[bx_] at h
   rw[←h]
   rfl
  refine⟨l,.inl rfl,?_⟩
  rw[this]
  exact TW hw
 | k :: ys,pre,l,h,hl=>by
  obtain⟨e1,e2,e3⟩:=V0 h
  have ih:=fun l' (hl':l' <:+ s)=>Ox (ns:=ns) hw hs ys (pre++[k]) l' (aB h) hl'
  rw[ae_,ac_,show((pre.length+1:Nat):Int)+1=k+1 by omega] at ih
  rw[←e1,vd,aI e3,Ov (by omega) e3]
  simp only[ab_,dG,ef_,g8]
  by_cases hp:gD k=w
  ·rw[aI hp,show(⟨#[40]⟩:aa_)=ba [40] from rfl,i7 (by omega) (by decide) hl]
   simp only[ab_,bm_,bv_,hp,ch_]
   cases hq:([40]:ap).isPrefixOf (bl l) with
   | true=>exact⟨l,.inl rfl,rfl⟩
   | false =>
    simp only[aj_,aw_]
    rw[wr (by omega) (by omega)]
    obtain⟨l',h1,h2⟩:=ih (bl l) (an (aH l) hl)
    rw[dP] at h1 h2
    refine⟨l',.inr (by simpa using h1),?_⟩
    rw[h2,hq]
  ·rw[aD hp,wr (by omega) (by omega)]
   obtain⟨l',h1,h2⟩:=ih l hl
   refine⟨l',h1,?_⟩
   rw[h2]
   simp[hp]
theorem mB (p:UInt8→Bool) (l:ap):(l.takeWhile p).length≤l.length:=(List.takeWhile_prefix p).length_le
abbrev nP (p:cl):ab:=(2,0,(0,0,(⟨#[]⟩:aa_),()),p,((0,0,()),false,false,()),([]:(List Int)),())
abbrev nA (p q:cl):ab:=(3,0,(0,0,(⟨#[]⟩:aa_),()),p,q,([]:(List Int)),())
noncomputable def i8 (deep:Int) (w r:ap) (b:Bool) (ns:List ab):Option ((Int×Unit)×(q8×Unit)) :=
 if(bJ w).2=true∧((bJ w).1.1=1∨(bJ w).1.1=3) then cc (bJ w).1 (ba r) b ns
 else if(cS w).2=true then bq (nP (cS w).1) (ba r) b ns
 else match n8.find? (fun k=>decide (gD k=w)) with
  | some k=>iO k deep (ba r) b ns
  | none=>some ((-1,()),((ba r,ns,true,()),()))
theorem jG {F:Option ((Int×Unit)×(q8×Unit))}:(F.bind fun z3=>(some ((z3.1.1,()),(z3.2.1,()))))=F:=DI
theorem V1 {deep:Int} {w l:ap} {b:Bool} {ns:List ab}:dS deep (ba w) 1 (ba l) b ns=match n8.find? (fun k=>decide (gD k=w)) with
  | some k=>iO k deep (ba l) b ns
  | none=>some ((-1,()),((ba l,ns,true,()),())):=Ow n8 [] rfl
theorem abF {deep:Int} {l:ap} {b:Bool} {ns:List ab} (hl:l.length≤900):dD deep 6 (ba l) b ns=i8 deep ((bl l).takeWhile br) ((bl l).dropWhile br) b ns:=by
 have h1:=aR (aH l)
 have h2:((bl l).takeWhile br).length≤(bl l).length:=mB br (bl l)
 rw[sD,aD (by decide),AA (by omega)]
 simp only[ab_]
 rw[oA (by omega),oy (by omega)]
 simp only[ab_,jG,V1]
 unfold i8
 cases (bJ ((bl l).takeWhile br)).2 with
 | false=>simp
 | true =>
  by_cases k1:(bJ ((bl l).takeWhile br)).1.1=1
  ·simp[k1]
  ·by_cases k3:(bJ ((bl l).takeWhile br)).1.1=3
   ·simp[k3]
   ·simp[k1,k3]
theorem Oy {deep:Int} {l:ap} {b:Bool} {ns:List ab} (hl:l.length≤900):qd deep (ba l) b ns =
  if(bl l).head? = some 34 then ke (ba (bl l)) b ns
  else if(bl l).head? = some 35 then dD deep 1 (ba (bl l)) b ns
  else if(bl l).head? = some 40 then((bW 1 (IntKind.i64.wrap (deep+1)) (ba ((bl l).drop 1)) b ns).bind fun z6=>(if z6.2.1.2.2.1=true then(some ((z6.1.1,()),((z6.2.1.1,z6.2.1.2.1,true,()),()))) else((bS (⟨#[41]⟩:aa_) z6.2.1.1 z6.2.1.2.2.1 z6.2.1.2.1).bind fun z7=>(some ((z6.1.1,()),((z7.2.1.1,z7.2.1.2.1,(!z7.1.1),()),()))))))
  else i8 deep ((bl l).takeWhile br) ((bl l).dropWhile br) b ns:=by
 have h1:=aR (aH l)
 have h2:((bl l).takeWhile br).length≤(bl l).length:=mB br (bl l)
 rw[G3,qz]
 simp only[ab_]
 rw[show(⟨#[34]⟩:aa_)=ba [34] from rfl,sI _ _ (by omega),show(⟨#[35]⟩:aa_)=ba [35] from rfl,sI _ _ (by omega),show(⟨#[40]⟩:aa_)=ba [40] from rfl,et (by omega)]
 simp only[ab_,jG,Fu,dP,n7 (c:=40) (.inr (.inl rfl)),ai_,ac_]
 by_cases c1:(bl l).head? = some 34
 ·rw[af_ c1,af_ c1]
 ·rw[ad_ c1,ad_ c1]
  by_cases c2:(bl l).head? = some 35
  ·rw[af_ c2,af_ c2]
  ·rw[ad_ c2,ad_ c2]
   by_cases c3:(bl l).head? = some 40
   ·rw[af_ c3,af_ c3,af_ c3]
   ·rw[ad_ c3,ad_ c3,ad_ c3,AA (by omega),dP]
    simp only[ab_]
    rw[oA (by omega),oy (by omega)]
    simp only[ab_,jG,V1]
    unfold i8
    cases (bJ ((bl l).takeWhile br)).2 with
    | false=>simp
    | true =>
     by_cases k1:(bJ ((bl l).takeWhile br)).1.1=1
     ·simp[k1]
     ·by_cases k3:(bJ ((bl l).takeWhile br)).1.1=3
      ·simp[k3]
      ·simp[k1,k3]
def KK (m:ap):Bool:=(cS (m.takeWhile br)).2 && decide ((bl (m.dropWhile br)).head? = some 58)
def kG (m:ap):ap:=bl ((bl (m.dropWhile br)).drop 1)
theorem Oz {l:ap} {b:Bool} {ns:List ab} (hl:l.length≤900):kQ (ba l) b ns =
  if KK (bl l)=true then some ((nA (cS ((bl l).takeWhile br)).1 (cS ((kG (bl l)).takeWhile br)).1,true,()),((ba ((kG (bl l)).dropWhile br),ns,(b || !(cS ((kG (bl l)).takeWhile br)).2),()),()))
  else some (((0,0,(0,0,(⟨#[]⟩:aa_),()),((0,0,()),false,false,()),((0,0,()),false,false,()),([]:(List Int)),()),false,()),((ba l,ns,b,()),())):=by
 have h1:=aR (aH l)
 have h2:((bl l).takeWhile br).length≤(bl l).length:=mB br (bl l)
 have h3:=KC br (bl l)
 have h4:=aR (aH ((bl l).dropWhile br))
 have h5:((bl ((bl l).dropWhile br)).drop 1).length≤(bl ((bl l).dropWhile br)).length:=aR (gb 1 _)
 have h6:=aR (aH ((bl ((bl l).dropWhile br)).drop 1))
 have h7:((kG (bl l)).takeWhile br).length≤(kG (bl l)).length:=mB br _
 have h8:(kG (bl l)).length≤((bl ((bl l).dropWhile br)).drop 1).length:=h6
 rw[Br,AA (by omega)]
 simp only[ab_]
 rw[oy (by omega)]
 simp only[ab_]
 unfold KK
 cases hp:(cS ((bl l).takeWhile br)).2 with
 | false=>simp
 | true =>
  simp only[ba_,bv_]
  rw[show(⟨#[58]⟩:aa_)=ba [58] from rfl,et (by omega)]
  simp only[ab_,n7 (c:=58) (.inr (.inr (.inr (.inr rfl)))),ac_]
  by_cases hc:(bl ((bl l).dropWhile br)).head? = some 58
  ·simp only[hc,ch_,bc_,aj_,aw_,ba_]
   rw[AA (by omega)]
   simp only[ab_]
   rw[show bl ((bl ((bl l).dropWhile br)).drop 1)=kG (bl l) from rfl,oy (by omega)]
   simp only[ab_]
   cases b <;> simp
  ·simp only[hc,cr_,bm_,ba_,aj_,aw_]
abbrev RI:=Option ((Int×Unit)×(q8×Unit))
def wQ (x:ab):Bool:=decide (x.2.2.1.2.2.1.size≤100000) && decide (x.2.2.2.2.2.1.length≤100000)
def sm (ns:List ab):Bool:=ns.all wQ
def g9 (l:ap) (b:Bool) (ns:List ab) (F:RI):Prop :=
 ∃(i:Int) (l':ap) (b':Bool) (ns':List ab),F=some ((i,()),((ba l',ns',b',()),()))∧l' <:+ l∧(b=true→b'=true)∧ns <+: ns'∧ns'.length≤60∧(sm ns=true→sm ns'=true)
theorem g9.mono {l l0:ap} {b b0:Bool} {ns ns0:List ab} {F:RI} (h:g9 l b ns F) (h1:l <:+ l0) (h2:b0=true→b=true) (h3:ns0 <+: ns) (h4:sm ns0=true→sm ns=true:=by exact id):g9 l0 b0 ns0 F:=by
 obtain⟨i,l',b',ns',e,k1,k2,k3,k4,k5⟩:=h
 exact⟨i,l',b',ns',e,an k1 h1,fun h=>k2 (h2 h),List.IsPrefix.trans h3 k3,k4,fun h=>k5 (h4 h)⟩
theorem oV (l:ap):l <:+ l:=List.suffix_refl l
theorem fe {x:ab} {l:ap} {b:Bool} {ns:List ab} (hn:ns.length≤60) (hx:wQ x=true:=by rfl):g9 l b ns (bq x (ba l) b ns):=by
 obtain⟨i,h,_⟩:=DH (x:=x) (l:=l) (b:=b) hn
 refine⟨i,l,_,_,h,oV l,(fun hb=>by rw[hb]; rfl),?_,?_,?_⟩
 ·split
  ·exact⟨[x],rfl⟩
  ·exact dl_ _
 ·split
  ·rename_i h
   rw[ae_,ac_]
   omega
  ·exact hn
 ·intro hs
  split
  ·unfold sm at hs ⊢
   rw[ee_,hs]
   simp[hx]
  ·exact hs
theorem Rx {v:ac} (h:v.2.2.1.size≤100000):wQ (nC v)=true:=by
 unfold wQ
 rw[bd_ h]
 rfl
theorem HH {op:Int} {y:List Int} (h:y.length≤100000):wQ (6,op,(0,0,(⟨#[]⟩:aa_),()),((0,0,()),false,false,()),((0,0,()),false,false,()),y,())=true:=by
 unfold wQ
 rw[ah_]
 exact⟨rfl,bd_ h⟩
theorem pB {v:ac} {r:aa_} {b:Bool} {ns:List ab}:cc v r b ns=bq (nC v) r b ns:=by
 rw[Bp]
 exact jG
theorem zf {i:Int} {l:ap} {b:Bool} {ns:List ab} (hn:ns.length≤60):g9 l b ns (some ((i,()),((ba l,ns,true,()),()))) :=
 ⟨i,l,true,ns,rfl,oV l,fun _=>rfl,dl_ _,hn,id⟩
theorem kH {l:ap} {c:UInt8} (h:l.head? = some c) : ∃ t,l=c :: t:=by
 cases l with
 | nil=>cases h
 | cons y t =>
  simp only[db_,bg_] at h
  exact⟨t,by rw[h]⟩
theorem oW {l:ap} {c:UInt8} (h:(bl l).head? = some c):((bl l).drop 1).length < l.length:=by
 have:=aR (aH l)
 obtain⟨t,ht⟩:=kH h
 rw[ht] at this ⊢
 simp only[ak_,bz_,cu_] at this ⊢
 omega
theorem iv (l:ap):(bl l).drop 1 <:+ l:=an (gb 1 _) (aH l)
theorem OA (l:ap):(bl l).dropWhile br <:+ l:=an (gm_ _) (aH l)
theorem I6 (l:ap):(kG (bl l)).dropWhile br <:+ l :=
 an (gm_ _) (an (aH _) (an (gb 1 _) (an (aH _) (OA l))))
section
variable {n:Nat} (HB : ∀ l:ap,l.length < n → ∀(deep least:Int) (b:Bool) (ns:List ab),0≤deep→deep+(l.length:Int)≤400→ns.length≤60→g9 l b ns (bW least deep (ba l) b ns))
include HB
theorem KL : ∀(m:Nat) (l:ap) (op deep:Int) (b:Bool) (kids:List Int) (ns:List ab),l.length=m→l.length < n→0≤deep→deep+1+(l.length:Int)≤400→kids.length+l.length≤10000→ns.length≤60→g9 l b ns (cH op deep (ba l) b kids ns):=by
 intro m
 induction m using Nat.strongRecOn with
 | ind m ih =>
  intro l op deep b kids ns hm hln hd0 hd hk hn
  subst hm
  rw[lL]
  cases b with
  | true =>
   simp only[bc_,aj_,aw_,jG]
   exact fe hn (HH (by omega))
  | false =>
   have tail : ∀(l2:ap) (b2:Bool) (ns2:List ab) (y:List Int),l2 <:+ l→ns <+: ns2→ns2.length≤60→y.length=kids.length+1→(sm ns=true→sm ns2=true) →
     g9 l false ns ((bS (⟨#[44]⟩:aa_) (ba l2) b2 ns2).bind fun z3=>(if(!z3.1.1)=true then(if z3.2.1.2.2.1=true then((bq (6,op,(0,0,(⟨#[]⟩:aa_),()),((0,0,()),false,false,()),((0,0,()),false,false,()),y,()) z3.2.1.1 true z3.2.1.2.1).bind fun z4=>(some ((z4.1.1,()),(z4.2.1,())))) else((bS (⟨#[41]⟩:aa_) z3.2.1.1 z3.2.1.2.2.1 z3.2.1.2.1).bind fun z5=>((bq (6,op,(0,0,(⟨#[]⟩:aa_),()),((0,0,()),false,false,()),((0,0,()),false,false,()),y,()) z5.2.1.1 (!z5.1.1) z5.2.1.2.1).bind fun z6=>(some ((z6.1.1,()),(z6.2.1,())))))) else(cH op deep z3.2.1.1 z3.2.1.2.2.1 y z3.2.1.2.1))):=by
    intro l2 b2 ns2 y hs hp hn2 hy hsm
    have hl2:=aR hs
    rw[show(⟨#[44]⟩:aa_)=ba [44] from rfl,et (by omega)]
    simp only[ab_,n7 (c:=44) (.inr (.inr (.inr (.inl rfl)))),jG,ac_]
    by_cases hc:(bl l2).head? = some 44
    ·have hlt:=oW hc
     simp only[hc,ch_,bc_,aj_,aw_,ba_]
     exact(ih _ (by omega) _ op deep b2 y ns2 rfl (by omega) hd0 (by omega) (by omega) hn2).mono (an (iv l2) hs) (fun h=>by cases h) hp hsm
    ·simp only[hc,cr_,bm_,ba_,aw_]
     have hbl:=aR (aH l2)
     cases b2 with
     | true =>
      simp only[ba_]
      exact(fe hn2 (HH (by omega))).mono (an (aH l2) hs) (fun h=>by cases h) hp hsm
     | false =>
      simp only[aj_,aw_]
      rw[show(⟨#[41]⟩:aa_)=ba [41] from rfl,et (by omega)]
      simp only[ab_,jG]
      refine(fe hn2 (HH (by omega))).mono ?_ (fun h=>by cases h) hp hsm
      split
      ·exact an (an (gb _ _) (aH _)) (an (aH l2) hs)
      ·exact an (aH _) (an (aH l2) hs)
   simp only[bm_,ba_]
   rw[Oz (by omega)]
   by_cases ha:KK (bl l)=true
   ·rw[af_ ha]
    simp only[ab_,ba_]
    obtain⟨i2,l2,b2,ns2,h2,k1,k2,k3,k4,k5⟩:=fe (x:=nA (cS ((bl l).takeWhile br)).1 (cS ((kG (bl l)).takeWhile br)).1) (l:=(kG (bl l)).dropWhile br) (b:=(false || !(cS ((kG (bl l)).takeWhile br)).2)) hn
    rw[h2]
    simp only[ab_]
    rw[bg (by simp only[ac_]; omega)]
    exact tail _ _ _ _ (an k1 (I6 l)) k3 k4 (by simp) k5
   ·rw[ad_ ha]
    simp only[ab_,aj_,aw_]
    rw[wr (by omega) (by omega)]
    obtain⟨i2,l2,b2,ns2,h2,k1,k2,k3,k4,k5⟩:=HB l hln (deep+1) 1 false ns (by omega) hd hn
    rw[h2]
    simp only[ab_]
    rw[bg (by simp only[ac_]; omega)]
    exact tail _ _ _ _ k1 k3 k4 (by simp) k5
theorem X3 {l:ap} {op deep:Int} {b:Bool} {ns:List ab} (hln:l.length < n) (hd0:0≤deep) (hd:deep+1+(l.length:Int)≤400) (hn:ns.length≤60):g9 l b ns (iO op deep (ba l) b ns):=by
 rw[wn]
 cases b with
 | true =>
  rw[af_ rfl,CA]
  simp only[bc_,aj_,aw_,jG]
  exact fe hn (HH (by simp))
 | false =>
  rw[ad_ (by decide),show(⟨#[40]⟩:aa_)=ba [40] from rfl,et (by omega)]
  simp only[ab_]
  have hs:(if sg (bl l)=[40] then(bl l).drop ([40]:ap).length else bl l) <:+ l:=by
   split
   ·exact iv l
   ·exact aH l
  have:=aR hs
  exact(KL HB _ _ op deep _ [] ns rfl (by omega) hd0 (by omega) (by simp only[List.length_nil]; omega) hn).mono hs (fun h=>by cases h) (dl_ _)
theorem X4 {deep:Int} {w r:ap} {b:Bool} {ns:List ab} (hln:n8.find? (fun k=>decide (gD k=w))≠none→r.length < n∧deep+1+(r.length:Int)≤400) (hd0:0≤deep) (hn:ns.length≤60):g9 r b ns (i8 deep w r b ns):=by
 unfold i8
 split
 ·rename_i hc
  rw[pB]
  exact fe hn (Rx (bn_ (dE (oT hc.1).1) (by decide)))
 ·split
  ·exact fe hn
  ·cases hf:n8.find? (fun k=>decide (gD k=w)) with
   | some k =>
    obtain⟨h1,h2⟩:=hln (by rw[hf]; simp)
    exact X3 HB h1 hd0 h2 hn
   | none=>exact zf hn
end
theorem Ry {w:ap} (h:n8.find? (fun k=>decide (gD k=w))≠none) : ∃ k,n8.find? (fun k=>decide (gD k=w))=some k∧gD k=w∧k∈n8∧w≠[]:=by
 cases hf:n8.find? (fun k=>decide (gD k=w)) with
 | none=>exact bk_ hf h
 | some k =>
  have h1:=List.find?_some hf
  have h2:=List.mem_of_find?_eq_some hf
  have h3:gD k=w:=by simpa using h1
  refine⟨k,rfl,h3,h2,?_⟩
  have : ∀ k∈n8,gD k≠[]:=by decide
  rw[←h3]
  exact this k h2
theorem Rz {l:ap} (h:(bl l).takeWhile br≠[]):((bl l).dropWhile br).length < l.length:=by
 have h1:=aR (aH l)
 have h2:=congrArg al_ (List.takeWhile_append_dropWhile (p:=br) (l:=bl l))
 rw[ae_] at h2
 have h3:=List.length_pos_iff.2 h
 omega
theorem TX {l:ap} {b:Bool} {ns:List ab} (hl:l.length≤900) (hn:ns.length≤60):g9 (34 :: l) b ns (ke (ba (34 :: l)) b ns):=by
 rw[HF hl]
 cases hq:qt l with
 | none=>exact zf hn
 | some p =>
  obtain⟨h1,h2,_⟩:=VX l p.1 p.2 hq
  show g9 _ b ns (cc _ _ b ns)
  rw[pB]
  refine(fe hn (Rx ?_)).mono (an h1 ⟨[34],rfl⟩) id (dl_ _)
  show(ba ([]++p.1)).size≤_
  rw[aQ]
  simp only[List.nil_append]
  omega
theorem KM (l:ap):(bl (35 :: l)).takeWhile br=[]∧(bl (35 :: l)).dropWhile br=35 :: l:=by
 have h1:bl (35 :: l)=35 :: l:=dg_ (by decide)
 rw[h1]
 exact⟨fo_ (by decide),dg_ (by decide)⟩
theorem RA {deep:Int} {l:ap} {b:Bool} {ns:List ab} (hl:l.length≤800):dD deep 1 (ba (35 :: l)) b ns=match zd.find? (ze l) with
  | some n=>cc (vE n) (ba (l.drop (pA n).length)) b ns
  | none=>some ((-1,()),((ba (35 :: l),ns,true,()),())):=by
 have h:=KI (deep:=deep) (l:=l) (b:=b) (ns:=ns) (by omega) zd [] rfl
 have h:dD deep 1 (ba (35 :: l)) b ns=_:=h
 rw[h]
 cases zd.find? (ze l) with
 | some n=>rfl
 | none =>
  simp only
  rw[abF (by rw[ak_]; omega),(KM l).1,(KM l).2]
  have e1 : ¬((bJ []).2=true∧((bJ []).1.1=1∨(bJ []).1.1=3)):=by decide +kernel
  have e2 : ¬(cS []).2=true:=by decide +kernel
  have e3:n8.find? (fun k=>decide (gD k=[]))=none:=by decide +kernel
  unfold i8
  rw[ad_ e1,ad_ e2,e3]
theorem X5 {l:ap} (HB : ∀ l':ap,l'.length < l.length → ∀(deep least:Int) (b:Bool) (ns:List ab),0≤deep→deep+(l'.length:Int)≤400→ns.length≤60→g9 l' b ns (bW least deep (ba l') b ns))
  {deep:Int} {b:Bool} {ns:List ab} (hd0:0≤deep) (hd:deep+(l.length:Int)≤400) (hn:ns.length≤60):g9 l b ns (qd deep (ba l) b ns):=by
 have hbl:=aR (aH l)
 rw[Oy (by omega)]
 by_cases c1:(bl l).head? = some 34
 ·rw[af_ c1]
  obtain⟨t,ht⟩:=kH c1
  have htl:t.length+1=(bl l).length:=by rw[ht]; simp
  rw[ht]
  exact(TX (by omega) hn).mono (by rw[←ht]; exact aH l) id (dl_ _)
 ·rw[ad_ c1]
  by_cases c2:(bl l).head? = some 35
  ·rw[af_ c2]
   obtain⟨t,ht⟩:=kH c2
   have htl:t.length+1=(bl l).length:=by rw[ht]; simp
   have hts:t <:+ l:=an ⟨[35],by rw[ht]; rfl⟩ (aH l)
   rw[ht,RA (by omega)]
   cases zd.find? (ze t) with
   | some n =>
    simp only
    rw[pB]
    exact(fe hn (Rx (by show eS.size≤_; decide))).mono (an (gb _ _) hts) id (dl_ _)
   | none=>exact(zf hn).mono (by rw[←ht]; exact aH l) id (dl_ _)
  ·rw[ad_ c2]
   by_cases c3:(bl l).head? = some 40
   ·rw[af_ c3]
    have hlt:=oW c3
    rw[wr (by omega) (by omega)]
    obtain⟨i2,l2,b2,ns2,h2,k1,k2,k3,k4,k5⟩:=HB _ hlt (deep+1) 1 b ns (by omega) (by omega) hn
    rw[h2]
    simp only[ab_]
    have hl2:=aR k1
    have hs2:l2 <:+ l:=an k1 (iv l)
    cases b2 with
    | true =>
     simp only[ba_]
     exact⟨i2,l2,true,ns2,rfl,hs2,fun _=>rfl,k3,k4,k5⟩
    | false =>
     simp only[aj_,aw_]
     rw[show(⟨#[41]⟩:aa_)=ba [41] from rfl,et (by omega)]
     simp only[ab_]
     refine⟨i2,_,_,ns2,rfl,?_,(fun h=>by have:=k2 h; cases this),k3,k4,k5⟩
     split
     ·exact an (an (gb _ _) (aH _)) hs2
     ·exact an (aH _) hs2
   ·rw[ad_ c3]
    refine(X4 HB (fun h => ?_) hd0 hn).mono (OA l) id (dl_ _)
    obtain⟨k,_,_,_,hw⟩:=Ry h
    have:=Rz hw
    omega
theorem V2 : ∀(m:Nat) (l:ap),l.length=m→(∀ l':ap,l'.length < l.length → ∀(deep least:Int) (b:Bool) (ns:List ab),0≤deep→deep+(l'.length:Int)≤400→ns.length≤60→g9 l' b ns (bW least deep (ba l') b ns)) →
  ∀(deep:Int) (b:Bool) (ns:List ab),0≤deep→deep+(l.length:Int)≤400→ns.length≤60→g9 l b ns (ld deep (ba l) b ns):=by
 intro m
 induction m using Nat.strongRecOn with
 | ind m ih =>
  intro l hm HB deep b ns hd0 hd hn
  subst hm
  rw[u6,aD (by omega)]
  cases b with
  | true =>
   simp only[ba_]
   exact zf hn
  | false =>
   simp only[aj_,aw_,jG]
   rw[show(⟨#[45]⟩:aa_)=ba [45] from rfl,et (by omega)]
   simp only[ab_,n7 (c:=45) (.inl rfl),ac_]
   have hbl:=aR (aH l)
   by_cases hc:(bl l).head? = some 45
   ·have hlt:=oW hc
    simp only[hc,ch_,ba_]
    rw[wr (by omega) (by omega)]
    obtain⟨i2,l2,b2,ns2,h2,k1,k2,k3,k4,k5⟩:=ih _ hlt _ rfl (fun l' h'=>HB l' (by omega)) (deep+1) false ns (by omega) (by omega) hn
    rw[h2]
    simp only[ab_]
    exact(fe k4).mono (an k1 (iv l)) (fun h=>by cases h) k3 k5
   ·simp only[hc,cr_,aj_,aw_]
    exact(X5 (l:=bl l) (fun l' h'=>HB l' (by omega)) hd0 (by omega) hn).mono (aH l) id (dl_ _)
theorem I7 {least deep left:Int} {op:Int} {l:ap} {ns:List ab} (ho:0≤op) (ho2:op≤11) (hl:l.length≤900) (hs:op≠0→sg (bl l)=eJ op):cy least deep left op 12 (ba l) false ns =
  if op=0∨dL op < least then some ((left,()),((ba l,ns,false,()),()))
  else((bW (dL op+1) deep (ba ((bl l).drop (eJ op).length)) false ns).bind fun z7=>((bq (5,op,(0,0,(⟨#[]⟩:aa_),()),((0,0,()),false,false,()),((0,0,()),false,false,()),([left,z7.1.1]:(List Int)),()) z7.2.1.1 z7.2.1.2.2.1 z7.2.1.2.1).bind fun z8=>(fC least deep z8.1.1 z8.2.1.1 z8.2.1.2.2.1 z8.2.1.2.1))):=by
 rw[qo,aD (by decide)]
 by_cases h0:op=0
 ·rw[af_ (by rw[h0]; rfl),af_ (.inl h0)]
 ·have h0' : ¬(op == 0)=true:=by simpa using h0
  have hlv:1≤dL op∧dL op≤4:=by
   unfold dL
   repeat' split
   all_goals omega
  rw[ad_ h0',KG (by omega) ho2]
  simp only[ab_]
  by_cases h1:dL op < least
  ·rw[aI h1,af_ (.inr h1)]
  ·rw[aD h1,ad_ (by omega),Az ho ho2]
   simp only[ab_]
   rw[et (by omega),hs h0]
   simp only[ab_,ba_]
   rw[wr (by omega) (by omega)]
theorem OB {l:ap} (h:gd (bl l)≠0):((bl l).drop (eJ (gd (bl l))).length).length < l.length:=by
 have h1:=aR (aH l)
 have h2:=Ay h
 have h3:=DF (Oh (bl l))
 have h4:1≤(eJ (gd (bl l))).length:=by
  have:=sL (bl l)
  have h5 : ∀ k:Fin 12,k.val≠0→1≤(eJ (k.val:Int)).length:=by decide
  have:=h5 ⟨(gd (bl l)).toNat,by omega⟩ (by simp only; omega)
  simp only[dr_ (sL (bl l)).1] at this
  exact this
 rw[h2] at h3
 rw[dk_]
 omega
theorem AC : ∀(m:Nat) (l:ap),l.length=m→(∀ l':ap,l'.length < l.length → ∀(deep least:Int) (b:Bool) (ns:List ab),0≤deep→deep+(l'.length:Int)≤400→ns.length≤60→g9 l' b ns (bW least deep (ba l') b ns)) →
  ∀(least deep left:Int) (b:Bool) (ns:List ab),0≤deep→deep+(l.length:Int)≤400→ns.length≤60→g9 l b ns (fC least deep left (ba l) b ns):=by
 intro m
 induction m using Nat.strongRecOn with
 | ind m ih =>
  intro l hm HB least deep left b ns hd0 hd hn
  subst hm
  rw[kU]
  cases b with
  | true=>exact zf hn
  | false =>
   simp only[bm_,ba_]
   have hbl:=aR (aH l)
   obtain⟨o1,o2⟩:=sL (bl l)
   rw[FB (by omega),I7 o1 o2 (by omega) (fun h=>by rw[dP]; exact Ay h),dP]
   split
   ·exact⟨left,bl l,false,ns,rfl,aH l,fun h=>h,dl_ _,hn,id⟩
   ·rename_i hop
    have hop':gd (bl l)≠0:=fun e=>hop (.inl e)
    have hlt:=OB hop'
    obtain⟨i2,l2,b2,ns2,h2,k1,k2,k3,k4,k5⟩:=HB _ hlt deep (dL (gd (bl l))+1) false ns hd0 (by omega) hn
    rw[h2]
    simp only[ab_]
    obtain⟨i3,l3,b3,ns3,h3,j1,j2,j3,j4,j5⟩:=fe (x:=(5,gd (bl l),(0,0,(⟨#[]⟩:aa_),()),((0,0,()),false,false,()),((0,0,()),false,false,()),([left,i2]:(List Int)),())) (l:=l2) (b:=b2) k4
    rw[h3]
    simp only[ab_]
    have hs2:=aR k1
    have hs3:=aR j1
    exact(ih _ (by omega) l3 rfl (fun l' h'=>HB l' (by omega)) least deep i3 b3 ns3 hd0 (by omega) j4).mono (an j1 (an k1 (an (gb _ _) (aH l)))) (fun h=>by cases h) (List.IsPrefix.trans k3 j3) (fun h=>j5 (k5 h))
theorem TY : ∀(m:Nat) (l:ap),l.length=m → ∀(deep least:Int) (b:Bool) (ns:List ab),0≤deep→deep+(l.length:Int)≤400→ns.length≤60→g9 l b ns (bW least deep (ba l) b ns):=by
 intro m
 induction m using Nat.strongRecOn with
 | ind m ih =>
  intro l hm deep least b ns hd0 hd hn
  subst hm
  have HB : ∀ l':ap,l'.length < l.length → ∀(deep least:Int) (b:Bool) (ns:List ab),0≤deep→deep+(l'.length:Int)≤400→ns.length≤60→g9 l' b ns (bW least deep (ba l') b ns) :=
   fun l' h' deep least b ns d0 d1 hn=>ih _ h' l' rfl deep least b ns d0 d1 hn
  rw[to]
  obtain⟨i2,l2,b2,ns2,h2,k1,k2,k3,k4,k5⟩:=V2 _ l rfl HB deep b ns hd0 hd hn
  rw[h2]
  simp only[ab_]
  have hs2:=aR k1
  exact(AC _ l2 rfl (fun l' h'=>HB l' (by omega)) least deep i2 b2 ns2 hd0 (by omega) k4).mono k1 k2 k3 k5
abbrev RS:=Option ((Int×Unit)×(lz×Unit))
def dz (ns:List ab):Bool:=ns.all dF
theorem V3 {ns ns':List ab} (h:ns <+: ns') (k:dz ns=false):dz ns'=false:=by
 obtain⟨r,rfl⟩:=h
 unfold dz at k ⊢
 rw[ee_,k]
 rfl
def Dm (b:Bool) (ns:List ab):Prop:=(b=true∨dz ns=false)∧sm ns=true
theorem V4 {x:ab} (h:dF x=true):wQ x=true:=by
 have:x.2.2.1.2.2.1.size≤100000∧x.2.2.2.2.2.1.length≤100000:=by
  unfold dF kl at h
  split at h
  ·simp only[ah_,ai_] at h
   have:=dE h.1.1.2
   omega
  ·split at h
   ·simp only[ah_,ai_] at h
    rw[h.1.1.1.2]
    exact⟨by decide,by omega⟩
   ·split at h
    ·simp only[ah_,ai_] at h
     rw[h.1.1.2]
     exact⟨by decide,by omega⟩
    ·split at h
     ·simp only[ah_,ai_] at h
      rw[h.1.1.1.2]
      exact⟨by decide,by omega⟩
     ·split at h
      ·simp only[ah_,ai_] at h
       rw[h.1.1.1.2]
       exact⟨by decide,by omega⟩
      ·split at h
       ·simp only[ah_,ai_] at h
        rw[h.1.1.2]
        refine⟨by decide,?_⟩
        have h2:=h.1.1.1
        unfold n4 at h2
        split at h2
        ·simp only[cx_,ai_] at h2
         omega
        ·split at h2
         ·have:=bC.1 h2
          omega
         ·split at h2
          ·simp only[ai_] at h2
           omega
          ·cases h2
       ·cases h
 unfold wQ
 rw[bd_ this.1,bd_ this.2]
 rfl
theorem vx {ns:List ab} (h:dz ns=true):sm ns=true:=by
 unfold dz at h
 unfold sm
 rw[List.all_eq_true] at h ⊢
 exact fun x hx=>V4 (h x hx)
theorem HI {ns:List ab} (h:dz ns=true):Dm true ns:=⟨.inl rfl,vx h⟩
theorem g9.dm {l:ap} {b:Bool} {ns:List ab} {F:RI} (h:g9 l b ns F) (hd:Dm b ns) : ∃(i:Int) (l':ap) (b':Bool) (ns':List ab),F=some ((i,()),((ba l',ns',b',()),()))∧l' <:+ l∧Dm b' ns'∧ns'.length≤60:=by
 obtain⟨i,l',b',ns',e,k1,k2,k3,k4,k5⟩:=h
 exact⟨i,l',b',ns',e,k1,⟨hd.1.elim (fun h => .inl (k2 h)) (fun h => .inr (V3 k3 h)),k5 hd.2⟩,k4⟩
def n9 (s m:ap) (L:Int) (F:RI) (G:RS):Prop :=
 (∃(i:Int) (l1 l2:ap) (ns:List ab),F=some ((i,()),((ba l1,ns,false,()),()))∧G=some ((i,()),((ba s,at' s l2,false,ns,()),()))∧bl l1=bl l2∧l1 <:+ m∧l2 <:+ m∧dz ns=true∧ns.length≤60∧(gd (bl l1)=0∨dL (gd (bl l1)) < L))
 ∨ (∃(i:Int) (l1:ap) (b1:Bool) (ns1:List ab) (j:Int) (l2:ap) (ns2:List ab),F=some ((i,()),((ba l1,ns1,b1,()),()))∧Dm b1 ns1∧l1 <:+ m∧ns1.length≤60∧G=some ((j,()),((ba s,at' s l2,true,ns2,()),()))∧l2 <:+ s∧ns2.length≤61+m.length)
theorem TZ (k:Int):dL k < 5:=by
 unfold dL
 repeat' split
 all_goals omega
theorem n9.mono {s m m':ap} {L:Int} {F:RI} {G:RS} (h:n9 s m L F G) (hm:m <:+ m'):n9 s m' L F G:=by
 have:=aR hm
 rcases h with⟨i,l1,l2,ns,e1,e2,h1,h2,h3,h4,h5,h6⟩ | ⟨i,l1,b1,ns1,j,l2,ns2,e1,h1,h2,h3,e2,h4,h5⟩
 ·exact .inl ⟨i,l1,l2,ns,e1,e2,h1,an h2 hm,an h3 hm,h4,h5,h6⟩
 ·exact .inr ⟨i,l1,b1,ns1,j,l2,ns2,e1,h1,an h2 hm,h3,e2,h4,by omega⟩
theorem RB {ns:List ab} {x:ab} (h:sm ns=true) (hx:wQ x=true):sm (ns++[x])=true:=by
 unfold sm at h ⊢
 rw[ee_,h]
 simp[hx]
theorem OC {x:ab} (h:wQ x=true):x.2.2.1.2.2.1.size≤9223372036854775807:=by
 unfold wQ at h
 rw[ah_,ai_] at h
 exact bn_ h.1 (by decide)
theorem rq {s m l1 l2:ap} {x:ab} {ns:List ab} (hsx:wQ x=true) (h1:bl l1=bl l2) (k1:l1 <:+ m) (k2:l2 <:+ m) (hms:m <:+ s) (ho:dz ns=true) (hn:ns.length≤60) :
  n9 s m 5 (bq x (ba l1) false ns) (cm x (ba s) (at' s l2) false ns):=by
 have hx:=OC hsx
 obtain⟨i,e,hi⟩:=DH (x:=x) (l:=l1) (b:=false) hn
 rw[e,I3 (by omega) hx]
 by_cases hlt:ns.length < 60
 ·have hi:=hi rfl hlt
  subst hi
  have d60:decide (60≤ns.length)=false:=be_ (by omega)
  rw[d60,af_ ⟨rfl,hlt⟩]
  simp only[ct_]
  cases hk:dF x with
  | true =>
   refine .inl ⟨_,l1,l2,ns++[x],rfl,rfl,h1,k1,k2,?_,?_,.inr (TZ _)⟩
   ·unfold dz at ho ⊢
    rw[ee_,ho]
    simp[hk]
   ·rw[ae_,ac_]; omega
  | false =>
   refine .inr ⟨_,l1,false,ns++[x],(ns.length:Int),l2,ns++[x],rfl,⟨.inr ?_,RB (vx ho) hsx⟩,k1,?_,rfl,an k2 hms,?_⟩
   ·unfold dz
    rw[ee_]
    simp[hk]
   ·rw[ae_,ac_]; omega
   ·rw[ae_,ac_]; omega
 ·have d60:decide (60≤ns.length)=true:=bd_ (by omega)
  rw[d60,ad_ (by omega)]
  refine .inr ⟨i,l1,true,ns,(ns.length:Int),l2,ns++[x],rfl,HI ho,k1,hn,?_,an k2 hms,?_⟩
  ·simp
  ·rw[ae_,ac_]; omega
theorem OD {s:ap} {a:Int} {x:ab} {ns:List ab} (hn:ns.length≤1000) (hx:x.2.2.1.2.2.1.size≤9223372036854775807):cm x (ba s) a true ns=some (((ns.length:Int),()),((ba s,a,true,ns++[x],()),())):=by
 rw[I3 hn hx]
 rfl
theorem T0 {op:Int} {s:aa_} {a:Int} {b:Bool} {ns:List ab} {kids:List Int}:s6 op s a b ns kids=de op s a b kids ns:=by
 rw[Fo,nE]
theorem KN {op:Int} {s:aa_} {a:Int} {ns:List ab} {kids:List Int}:de op s a true kids ns=some ((0,()),((s,a,true,ns,()),())):=by
 rw[nE]
 rfl
abbrev nF (op:Int) (kids:List Int):ab:=(6,op,(0,0,(⟨#[]⟩:aa_),()),((0,0,()),false,false,()),((0,0,()),false,false,()),kids,())
noncomputable def AD (op deep:Int) (y:List Int) (r:aa_) (b:Bool) (ns:List ab):RI :=
 (bS (⟨#[44]⟩:aa_) r b ns).bind fun z3=>(if(!z3.1.1)=true then(if z3.2.1.2.2.1=true then((bq (nF op y) z3.2.1.1 true z3.2.1.2.1).bind fun z4=>(some ((z4.1.1,()),(z4.2.1,())))) else((bS (⟨#[41]⟩:aa_) z3.2.1.1 z3.2.1.2.2.1 z3.2.1.2.1).bind fun z5=>((bq (nF op y) z5.2.1.1 (!z5.1.1) z5.2.1.2.1).bind fun z6=>(some ((z6.1.1,()),(z6.2.1,())))))) else(cH op deep z3.2.1.1 z3.2.1.2.2.1 y z3.2.1.2.1))
theorem Qo {op deep:Int} {l:ap} {kids:List Int} {ns:List ab} (hl:l.length≤900):cH op deep (ba l) false kids ns =
  if KK (bl l)=true then(bq (nA (cS ((bl l).takeWhile br)).1 (cS ((kG (bl l)).takeWhile br)).1) (ba ((kG (bl l)).dropWhile br)) (!(cS ((kG (bl l)).takeWhile br)).2) ns).bind fun z2=>(app kids ([z2.1.1]:(List Int)) 8 fun y1=>AD op deep y1 z2.2.1.1 z2.2.1.2.2.1 z2.2.1.2.1)
  else(bW 1 (IntKind.i64.wrap (deep+1)) (ba l) false ns).bind fun z7=>(app kids ([z7.1.1]:(List Int)) 8 fun y2=>AD op deep y2 z7.2.1.1 z7.2.1.2.2.1 z7.2.1.2.1):=by
 rw[lL]
 simp only[bm_,ba_]
 rw[Oz hl]
 by_cases ha:KK (bl l)=true
 ·rw[af_ ha,af_ ha]
  simp only[ab_,ba_,ct_]
  rfl
 ·rw[ad_ ha,ad_ ha]
  simp only[ab_,aj_,aw_]
  rfl
theorem DJ : ∀(l:ap),∀(deep least:Int) (b:Bool) (ns:List ab),0≤deep→deep+(l.length:Int)≤400→ns.length≤60→g9 l b ns (bW least deep (ba l) b ns):=fun l=>TY _ l rfl
theorem AE {op deep:Int} {y:List Int} {l:ap} {b:Bool} {ns:List ab} (hd0:0≤deep) (hd:deep+1+(l.length:Int)≤400) (hy:y.length+l.length≤9000) (hn:ns.length≤60):g9 l b ns (AD op deep y (ba l) b ns):=by
 have hbl:=aR (aH l)
 unfold AD
 rw[show(⟨#[44]⟩:aa_)=ba [44] from rfl,et (by omega)]
 simp only[ab_,jG]
 by_cases hc:sg (bl l)=[44]
 ·have hc':(bl l).head? = some 44:=by rw[←n7 (c:=44) (.inr (.inr (.inr (.inl rfl))))]; exact hc
  have hlt:=oW hc'
  simp only[hc,ch_,bc_,aj_,aw_,ba_,ac_]
  exact(KL (n:=l.length+1) (fun l' _ deep least b ns d0 d1 hn=>DJ l' deep least b ns d0 d1 hn) _ _ op deep b y ns rfl (by omega) hd0 (by omega) (by omega) hn).mono (iv l) id (dl_ _)
 ·simp only[hc,cr_,bm_,ba_,aw_]
  cases b with
  | true =>
   simp only[ba_]
   exact(fe hn (HH (by omega))).mono (aH l) (fun _=>rfl) (dl_ _)
  | false =>
   simp only[aj_,aw_]
   rw[show(⟨#[41]⟩:aa_)=ba [41] from rfl,et (by omega)]
   simp only[ab_,jG]
   refine(fe hn (HH (by omega))).mono ?_ (fun h=>by cases h) (dl_ _)
   split
   ·exact an (an (gb _ _) (aH _)) (aH l)
   ·exact an (aH _) (aH l)
noncomputable def DK (op:Int) (y:List Int) (s:aa_) (a:Int) (b:Bool) (ns:List ab):RS :=
 (dQ (⟨#[41]⟩:aa_) s a b ns).bind fun z2=>(if z2.1.1=true then((cm (nF op y) z2.2.1.1 z2.2.1.2.1 z2.2.1.2.2.1 z2.2.1.2.2.2.1).bind fun z3=>(some ((z3.1.1,()),(z3.2.1,())))) else((dQ (⟨#[44]⟩:aa_) z2.2.1.1 z2.2.1.2.1 z2.2.1.2.2.1 z2.2.1.2.2.2.1).bind fun z4=>(if(!z4.1.1)=true then(de op z4.2.1.1 z4.2.1.2.1 true y z4.2.1.2.2.2.1) else(de op z4.2.1.1 z4.2.1.2.1 z4.2.1.2.2.1 y z4.2.1.2.2.2.1))))
theorem wR {op:Int} {y:List Int} {s l:ap} {ns:List ab} (hs:s.length≤900) (h:l <:+ s) : ∃ l',l' <:+ s∧DK op y (ba s) (at' s l) true ns=some ((0,()),((ba s,at' s l',true,ns,()),())):=by
 unfold DK
 rw[show(⟨#[41]⟩:aa_)=ba [41] from rfl,i7 (by omega) (by decide) h]
 simp only[ab_,bc_,Bool.false_and,aj_,aw_]
 rw[show(⟨#[44]⟩:aa_)=ba [44] from rfl,i7 (by omega) (by decide) (an (aH l) h)]
 simp only[ab_,bc_,Bool.false_and,aj_,aw_,bm_,ba_]
 exact⟨bl (bl l),an (aH _) (an (aH l) h),KN⟩
theorem Qp {op:Int} {s l:ap} {kids:List Int} {ns:List ab}:de op (ba s) (at' s l) false kids ns=(su (ba s) (at' s l) false ns).bind fun z1=>(app kids ([z1.1.1]:(List Int)) 8 fun y1=>DK op y1 z1.2.1.1 z1.2.1.2.1 z1.2.1.2.2.1 z1.2.1.2.2.2.1):=by
 rw[nE]
 rfl
theorem ZN {s l:ap} {ns:List ab} (hs:s.length≤900) (h:l <:+ s):su (ba s) (at' s l) false ns =
  if KK (bl l)=true then(if(cS ((kG (bl l)).takeWhile br)).2=true then cm (nA (cS ((bl l).takeWhile br)).1 (cS ((kG (bl l)).takeWhile br)).1) (ba s) (at' s ((kG (bl l)).dropWhile br)) false ns
   else some ((0,()),((ba s,at' s ((kG (bl l)).dropWhile br),true,ns,()),())))
  else eY 1 (ba s) (at' s (bl l)) false ns:=by
 have hm:=an (aH l) h
 have hr:=an (OA l) h
 have hsl:=aR h
 have h1:=aR (aH l)
 have h2:=mB br (bl l)
 have h3:=aR (I6 l)
 rw[Nr,Oj (by omega) h]
 simp only[ab_]
 rw[FC (by omega) hm]
 simp only[ab_]
 rw[tc (by omega)]
 simp only[ab_]
 unfold KK
 cases hp:(cS ((bl l).takeWhile br)).2 with
 | false=>simp only[Bool.false_and,aj_,aw_,g8]
 | true =>
  simp only[ba_,bv_]
  rw[show(⟨#[58]⟩:aa_)=ba [58] from rfl,i7 (by omega) (by decide) hr]
  simp only[ab_,bm_,bv_,Fu]
  by_cases hc:(bl ((bl l).dropWhile br)).head? = some 58
  ·simp only[hc,ch_,ba_,ac_]
   have hq:(bl ((bl l).dropWhile br)).drop 1 <:+ s:=an (iv _) hr
   rw[Oj (by omega) hq]
   simp only[ab_]
   have hq2:kG (bl l) <:+ s:=an (aH _) hq
   rw[show bl ((bl ((bl l).dropWhile br)).drop 1)=kG (bl l) from rfl,FC (by omega) hq2]
   simp only[ab_]
   have h4:=mB br (kG (bl l))
   have h5:=aR hq2
   rw[tc (by omega)]
   simp only[ab_,g8]
   cases (cS ((kG (bl l)).takeWhile br)).2 <;> simp
  ·simp only[hc,cr_,aj_,aw_,g8]
theorem rr {s m m':ap} {L L':Int} {F:RI} {G:RS} {K:(Int×Unit)×(q8×Unit)→RI} {K':(Int×Unit)×(lz×Unit)→RS} (h:n9 s m L F G)
  (hg : ∀(i:Int) (l1 l2:ap) (ns:List ab),bl l1=bl l2→l1 <:+ m→l2 <:+ m→dz ns=true→ns.length≤60→(gd (bl l1)=0∨dL (gd (bl l1)) < L)→n9 s m' L' (K ((i,()),((ba l1,ns,false,()),()))) (K' ((i,()),((ba s,at' s l2,false,ns,()),()))))
  (hd : ∀(i:Int) (l1:ap) (b1:Bool) (ns1:List ab) (j:Int) (l2:ap) (ns2:List ab),Dm b1 ns1→l1 <:+ m→ns1.length≤60→l2 <:+ s→ns2.length≤61+m.length→n9 s m' L' (K ((i,()),((ba l1,ns1,b1,()),()))) (K' ((j,()),((ba s,at' s l2,true,ns2,()),())))) :
  n9 s m' L' (F.bind K) (G.bind K'):=by
 rcases h with⟨i,l1,l2,ns,rfl,rfl,h1,h2,h3,h4,h5,h6⟩ | ⟨i,l1,b1,ns1,j,l2,ns2,rfl,h1,h2,h3,rfl,h4,h5⟩
 ·exact hg i l1 l2 ns h1 h2 h3 h4 h5 h6
 ·exact hd i l1 b1 ns1 j l2 ns2 h1 h2 h3 h4 h5
theorem jT {s m:ap} {L:Int} {F:RI} {G:RS} {l1:ap} {b1:Bool} {ns1:List ab} {j:Int} {l2:ap} {ns2:List ab} (hF:g9 l1 b1 ns1 F) (hd:Dm b1 ns1) (h1:l1 <:+ m) (hG:G=some ((j,()),((ba s,at' s l2,true,ns2,()),()))) (h2:l2 <:+ s) (h3:ns2.length≤61+m.length):n9 s m L F G:=by
 obtain⟨i,l',b',ns',e,k1,k2,k3⟩:=hF.dm hd
 exact .inr ⟨i,l',b',ns',j,l2,ns2,e,k2,an k1 h1,k3,hG,h2,h3⟩
def V5 (s:ap) (n:Nat):Prop := ∀(l l0:ap),bl l=bl l0→l <:+ s→l0 <:+ s→(bl l).length < n → ∀(L deep:Int) (ns:List ab),1≤L→L≤5→0≤deep→deep+((bl l).length:Int)≤200→dz ns=true→ns.length≤60 →
 n9 s (bl l) L (bW L deep (ba l) false ns) (eY L (ba s) (at' s l0) false ns)
theorem kY {c:UInt8} {l:ap}:([c]:ap).isPrefixOf l=decide (l.head? = some c):=Fu c l
theorem X6 {s:ap} (hs:s.length≤200) {n:Nat} (HB:V5 s n) : ∀(k:Nat) (l1 l2:ap),(bl l1).length=k→bl l1=bl l2→l1 <:+ s→l2 <:+ s→(bl l1).length < n → ∀(op deep:Int) (kids:List Int) (ns:List ab),0≤deep→deep+1+((bl l1).length:Int)≤200→kids.length+(bl l1).length≤1000→dz ns=true→ns.length≤60 →
  n9 s (bl l1) 5 (cH op deep (ba l1) false kids ns) (de op (ba s) (at' s l2) false kids ns):=by
 intro k
 induction k using Nat.strongRecOn with
 | ind k ih =>
  intro l1 l2 hk hb hs1 hs2 hn op deep kids ns hd0 hd hkl ho hns
  subst hk
  have hl1:=aR hs1
  have hm1:=aR (aH l1)
  have hms:bl l1 <:+ s:=an (aH l1) hs1
  rw[Qo (by omega),Qp,ZN (by omega) hs2,←hb]
  have doom : ∀(y:List Int) (x1:ap) (b1:Bool) (ns1:List ab) (x2:ap) (ns2:List ab),y.length=kids.length+1→Dm b1 ns1→x1 <:+ bl l1→ns1.length≤60→x2 <:+ s→ns2.length≤61+(bl l1).length →
    n9 s (bl l1) 5 (AD op deep y (ba x1) b1 ns1) (DK op y (ba s) (at' s x2) true ns2):=by
   intro y x1 b1 ns1 x2 ns2 hy hdm hx1 hn1 hx2 hn2
   have hlx:=aR hx1
   obtain⟨l',h1,h2⟩:=wR (op:=op) (y:=y) (ns:=ns2) (by omega) hx2
   exact jT (AE hd0 (by omega) (by omega) hn1) hdm hx1 h2 h1 hn2
  have good : ∀(y:List Int) (x1 x2:ap) (ns:List ab),y.length=kids.length+1→bl x1=bl x2→x1 <:+ bl l1→x2 <:+ bl l1→dz ns=true→ns.length≤60 →
    n9 s (bl l1) 5 (AD op deep y (ba x1) false ns) (DK op y (ba s) (at' s x2) false ns):=by
   intro y x1 x2 ns hy hbx hx1 hx2 ho hn
   have hlx:=aR hx1
   have hblx:=aR (aH x1)
   have hx2s:=an hx2 hms
   have c41 : ¬(41:UInt8)=44:=by decide
   have c44 : ¬(44:UInt8)=41:=by decide
   unfold AD DK
   rw[show(⟨#[44]⟩:aa_)=ba [44] from rfl,show(⟨#[41]⟩:aa_)=ba [41] from rfl,et (by omega),i7 (by omega) (by decide) hx2s]
   simp only[ab_,n7 (c:=44) (.inr (.inr (.inr (.inl rfl)))),jG,g8,ac_,bm_,bv_,kY,←hbx]
   by_cases h44:(bl x1).head? = some 44
   ·have h41 : ¬(bl x1).head? = some 41:=by rw[h44]; simp
    simp only[h44,h41,ch_,cr_,bc_,aj_,aw_,ba_,bg_,c44]
    rw[i7 (by omega) (by decide) (an (aH x1) (an hx1 hms))]
    simp only[ab_,bm_,bv_,kY,dP,h44,ch_,ba_,bc_,aj_,aw_,ac_]
    have hlt:=oW h44
    have hb2:=aR (aH ((bl x1).drop 1))
    have hsx:(bl x1).drop 1 <:+ bl l1:=an (iv x1) hx1
    exact(ih _ (by omega) _ _ rfl rfl (an hsx hms) (an hsx hms) (by omega) op deep y ns hd0 (by omega) (by omega) ho hn).mono (an (aH _) hsx)
   ·simp only[h44,cr_,bm_,ba_,aw_,aj_]
    rw[et (by omega)]
    simp only[ab_,n7 (c:=41) (.inr (.inr (.inl rfl))),dP,ac_]
    by_cases h41:(bl x1).head? = some 41
    ·simp only[h41,ch_,ba_,bc_]
     have hsx:(bl x1).drop 1 <:+ bl l1:=an (iv x1) hx1
     exact rq (HH (by omega)) rfl hsx hsx hms ho hn
    ·simp only[h41,cr_,aw_,bm_,aj_]
     rw[i7 (by omega) (by decide) (an (aH x1) (an hx1 hms))]
     simp only[ab_,bm_,bv_,kY,dP,h44,cr_,ba_,aj_,aw_]
     have hsx:bl x1 <:+ bl l1:=an (aH x1) hx1
     exact jT (fe hn (HH (by omega))) (HI ho) hsx KN (an hsx hms) (by omega)
  by_cases ha:KK (bl l1)=true
  ·rw[af_ ha,af_ ha]
   have hX:(kG (bl l1)).dropWhile br <:+ bl l1:=by
    have:=I6 (bl l1)
    rw[dP] at this
    exact this
   cases h2:(cS ((kG (bl l1)).takeWhile br)).2 with
   | true =>
    simp only[bc_,ba_]
    refine rr (rq (m:=bl l1) rfl rfl hX hX hms ho hns) ?_ ?_
    ·intro i x1 x2 ns' e1 e2 e3 e4 e5 _
     simp only
     rw[bg (by simp only[ac_]; omega),bg (by simp only[ac_]; omega)]
     exact good _ _ _ _ (by simp) e1 e2 e3 e4 e5
    ·intro i x1 b1 ns1 j x2 ns2 e1 e2 e3 e4 e5
     simp only
     rw[bg (by simp only[ac_]; omega),bg (by simp only[ac_]; omega)]
     have:kids++[i]=kids++[i]:=rfl
     by_cases hij:i=j
     ·subst hij
      exact doom _ _ _ _ _ _ (by simp) e1 e2 e3 e4 e5
     ·obtain⟨l',h1,h2⟩:=wR (op:=op) (y:=kids++[j]) (ns:=ns2) (by omega) e4
      have hlx:=aR e2
      exact jT (AE hd0 (by omega) (by simp only[ae_,ac_]; omega) e3) e1 e2 h2 h1 e5
   | false =>
    simp only[bm_,aj_,aw_]
    obtain⟨i,h3,_⟩:=DH (x:=nA (cS ((bl l1).takeWhile br)).1 (cS ((kG (bl l1)).takeWhile br)).1) (l:=(kG (bl l1)).dropWhile br) (b:=true) hns
    rw[h3]
    simp only[ab_,Bool.true_eq_false,false_and,aw_,Bool.true_or]
    rw[bg (by simp only[ac_]; omega),bg (by simp only[ac_]; omega)]
    obtain⟨l',h1,h2⟩:=wR (op:=op) (y:=kids++[0]) (ns:=ns) (by omega) (an hX hms)
    have hlx:=aR hX
    exact jT (AE hd0 (by omega) (by simp only[ae_,ac_]; omega) hns) (HI ho) hX h2 h1 (by omega)
  ·rw[ad_ ha,ad_ ha,wr (by omega) (by omega)]
   refine rr (HB l1 (bl l1) (dP l1).symm hs1 hms hn 1 (deep+1) ns (by decide) (by decide) (by omega) (by omega) ho hns) ?_ ?_
   ·intro i x1 x2 ns' e1 e2 e3 e4 e5 _
    simp only
    rw[bg (by simp only[ac_]; omega),bg (by simp only[ac_]; omega)]
    exact good _ _ _ _ (by simp) e1 e2 e3 e4 e5
   ·intro i x1 b1 ns1 j x2 ns2 e1 e2 e3 e4 e5
    simp only
    rw[bg (by simp only[ac_]; omega),bg (by simp only[ac_]; omega)]
    obtain⟨l',h1,h2⟩:=wR (op:=op) (y:=kids++[j]) (ns:=ns2) (by omega) e4
    have hlx:=aR e2
    exact jT (AE hd0 (by omega) (by simp only[ae_,ac_]; omega) e3) e1 e2 h2 h1 e5
end Go.Proofs.YthbkdfcmjmmpgaaGreatDoor.Abs
