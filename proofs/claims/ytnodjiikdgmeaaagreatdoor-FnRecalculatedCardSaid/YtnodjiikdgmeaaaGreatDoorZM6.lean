/- Plain laws: places and their texts. -/
import Derived.Test.YtnodjiikdgmeaaaGreatDoorZM5
set_option linter.unusedVariables false
set_option linter.unusedSimpArgs false
set_option linter.unusedSectionVars false
namespace Go.Proofs.YtnodjiikdgmeaaaGreatDoor.Abs
open Go
def gN (c:Nat):ag:=if c≤26 then [UInt8.ofNat (64+c)] else [65,UInt8.ofNat (38+c)]
theorem TY : ∀ c:Fin 53,1≤c.val→c.val≤26→strOfNums ([(IntKind.u8.wrap (IntKind.i64.wrap ((IntKind.i64.wrap (65+(c.val:Int))) - 1)))]:List Int)=ba (gN c.val):=by decide +kernel
theorem TZ : ∀ c:Fin 53,1≤c.val → ¬c.val≤26→strOfNums ([(IntKind.u8.wrap (IntKind.i64.wrap ((IntKind.i64.wrap (65+(IntKind.i64.wrap (Int.tdiv (IntKind.i64.wrap ((c.val:Int) - 1)) 26)))) - 1))),(IntKind.u8.wrap (IntKind.i64.wrap (65+(Int.tmod (IntKind.i64.wrap ((c.val:Int) - 1)) 26))))]:List Int)=ba (gN c.val):=by decide +kernel
theorem T0 : ∀ c:Fin 53,1≤c.val→strOfNums ([(IntKind.u8.wrap (IntKind.i64.wrap (65+(Int.tmod (IntKind.i64.wrap ((c.val:Int) - 1)) 26))))]:List Int)=ba (if c.val≤26 then gN c.val else(gN c.val).drop 1):=by decide +kernel
theorem T1 : ∀ c:Fin 53,1≤c.val→IntKind.i64.wrap (Int.tdiv (IntKind.i64.wrap ((c.val:Int) - 1)) 26)=if c.val≤26 then 0 else 1:=by decide +kernel
theorem Ew {c:Nat} (h1:1≤c) (h2:c≤52):rm (c:Int)=some ((ba (gN c),()),()):=by
 rw[Ow,jK]
 simp only[Option.bind_some]
 rw[show cQ (c:Int) 1 52=true from bu.2 ⟨by omega,by omega⟩]
 simp only[Bool.not_true,Bool.false_eq_true,if_false]
 by_cases h:c≤26
 ·rw[aF (by omega),TY ⟨c,by omega⟩ h1 h]
 ·rw[ax (by omega),TZ ⟨c,by omega⟩ h1 h]
theorem rx (c:Nat):1≤(gN c).length∧(gN c).length≤2:=by
 unfold gN
 split <;> simp
theorem Ex {c:Nat} (h1:1≤c) (h2:c≤52):uY (c:Int)=some ((ba (gN c),()),()):=by
 have k1:=T0 ⟨c,by omega⟩ h1
 have k2:=T1 ⟨c,by omega⟩ h1
 have kl:=rx c
 rw[Of,mL]
 simp only[Option.bind_some]
 rw[show cQ (c:Int) 1 52=true from bu.2 ⟨by omega,by omega⟩]
 simp only[Bool.not_true,Bool.false_eq_true,if_false]
 simp only at k1 k2
 rw[nu,aF (by omega),k1,k2]
 by_cases h:c≤26
 ·rw[if_pos h,if_pos h,bF (by simp only[List.length_nil]; omega),nu,ax (by decide),List.append_nil]
 ·rw[if_neg h,if_neg h,bF (by simp only[List.length_nil,List.length_drop]; omega),nu,aF (by decide),List.append_nil]
  have k3':strOfNums ([(IntKind.u8.wrap (IntKind.i64.wrap (65+(Int.tmod (IntKind.i64.wrap ((1:Int) - 1)) 26))))]:List Int)=ba [65]:=by decide +kernel
  have k4':IntKind.i64.wrap (Int.tdiv (IntKind.i64.wrap ((1:Int) - 1)) 26)=0:=by decide +kernel
  rw[k3',k4',bF (by simp only[List.length_cons,List.length_nil,List.length_drop]; omega),nu,ax (by decide)]
  congr 3
  unfold gN
  rw[if_neg h]
  rfl
theorem Fs {P:ByteArray→Int→Option ((Int×Unit)×Unit)} {C:Int→Option ((ByteArray×Unit)×Unit)}
  (hP : ∀ x n,P x n=if decide (n≤52)=true then(C n).bind fun z1=>(if(ByteArray.toList z1.1.1 == ByteArray.toList x)=true then some ((n,()),()) else P x (IntKind.i64.wrap (n+1))) else some ((0,()),()))
  (hC : ∀ c:Nat,1≤c→c≤52→C (c:Int)=some ((ba (gN c),()),())) (w:ag) : ∀ k n:Nat,n+k=53→1≤n→P (ba w) (n:Int)=some ((((((List.range' n k).find? fun m=>decide (gN m=w)).getD 0:Nat):Int),()),())
 | 0,n,h,_=>by
  rw[hP,ax (by omega)]
  rfl
 | k+1,n,h,h1=>by
  rw[hP,aF (by omega),hC n h1 (by omega)]
  simp only[Option.bind_some,dL,List.range'_succ,List.find?_cons]
  by_cases he:gN n=w
  ·simp[he]
  ·rw[if_neg (by simpa using he),wr (by omega) (by omega)]
   simp only[he,decide_false]
   exact Fs hP hC w k (n+1) (by omega) (by omega)
def lc (w:ag):Nat:=((List.range' 1 52).find? fun m=>decide (gN m=w)).getD 0
theorem OM (w:ag):E2 (ba w)=some ((((lc w:Nat):Int),()),()):=by
 rw[Ox]
 exact Fs (fun x n=>Ib) (fun c h1 h2=>Ew h1 h2) w 52 1 rfl (Nat.le_refl _)
theorem OO (w:ag):rk (ba w)=some ((((lc w:Nat):Int),()),()):=by
 rw[Ol]
 exact Fs (fun x n=>Ia) (fun c h1 h2=>Ex h1 h2) w 52 1 rfl (Nat.le_refl _)
theorem G7 : ∀ m:Fin 53,1≤m.val→lc (gN m.val)=m.val:=by decide +kernel
theorem T2 {w:ag} (h:1≤lc w):lc w≤52∧gN (lc w)=w:=by
 unfold lc at h ⊢
 cases hf:(List.range' 1 52).find? fun m=>decide (gN m=w) with
 | none=>rw[hf] at h; simp at h
 | some m =>
  have h1:=List.find?_some hf
  have h2:=List.mem_of_find?_eq_some hf
  rw[List.mem_range'_1] at h2
  simp only[Option.getD_some]
  exact⟨by omega,by simpa using h1⟩
def qE (b:Bool):ag:=if b=true then [36] else []
def tK (c r:Nat) (fc fr:Bool):ag:=qE fc++(gN c++(qE fr++Lib.decDigits r))
def fz (p:bJ):ag:=tK p.1.1.toNat p.1.2.1.toNat p.2.1 p.2.2.1
theorem s7 {r:al}:bK r=true↔(1≤r.1∧r.1≤52)∧1≤r.2.1∧r.2.1≤99:=by
 unfold bK
 rw[Bool.and_eq_true,bu,bu]
theorem um {r:Nat} (h:r≤99):(Lib.decDigits r).length≤2:=GU 1 r (by omega)
theorem oG (p:bJ):ni p=some ((if bK p.1=true then ba (fz p) else ba [],()),()):=by
 rw[KF,sW]
 simp only[Option.bind_some]
 cases hr:bK p.1 with
 | false=>rfl
 | true =>
  simp only[Bool.not_true,Bool.false_eq_true,if_false,if_true]
  obtain⟨⟨c,r,u⟩,fc,fr,u'⟩:=p
  obtain⟨⟨h1,h2⟩,h3,h4⟩:=s7.1 hr
  simp only at h1 h2 h3 h4 ⊢
  obtain⟨c,rfl⟩ : ∃ n:Nat,c=n:=⟨c.toNat,by omega⟩
  obtain⟨r,rfl⟩ : ∃ n:Nat,r=n:=⟨r.toNat,by omega⟩
  have kc:=rx c
  have kr:=um (r:=r) (by omega)
  have e1:rm (c:Int)=some ((ba (gN c),()),()):=Ew (by omega) (by omega)
  have e2:kX (r:Int)=some ((ba (Lib.decDigits r),()),()):=by rw[xv (by omega) (by omega),mO]
  unfold fz tK
  simp only[Int.toNat_natCast]
  cases fc <;> cases fr <;> simp only[e1,e2,Option.bind_some,if_true,if_false,Bool.false_eq_true,qE]
  all_goals
   repeat rw[bF (by first | omega | (simp only[List.length_append,List.length_cons,List.length_nil]; omega))]
   simp
theorem oH (p:bJ):c8 p=some ((if bK p.1=true then ba (fz p) else ba [],()),()):=by
 rw[Kq,mM]
 simp only[Option.bind_some]
 cases hr:bK p.1 with
 | false=>rfl
 | true =>
  simp only[Bool.not_true,Bool.false_eq_true,if_false,if_true]
  obtain⟨⟨c,r,u⟩,fc,fr,u'⟩:=p
  obtain⟨⟨h1,h2⟩,h3,h4⟩:=s7.1 hr
  simp only at h1 h2 h3 h4 ⊢
  obtain⟨c,rfl⟩ : ∃ n:Nat,c=n:=⟨c.toNat,by omega⟩
  obtain⟨r,rfl⟩ : ∃ n:Nat,r=n:=⟨r.toNat,by omega⟩
  have kc:=rx c
  have kr:=um (r:=r) (by omega)
  have e1:uY (c:Int)=some ((ba (gN c),()),()):=Ex (by omega) (by omega)
  have e2:dY (r:Int)=some ((ba (Lib.decDigits r),()),()):=by rw[Cj (by omega) (by omega),mO]
  unfold fz tK
  simp only[Int.toNat_natCast]
  cases fc <;> cases fr <;> simp only[e1,e2,Option.bind_some,if_true,if_false,Bool.false_eq_true,qE]
  all_goals
   repeat rw[bF (by first | omega | (simp only[List.length_append,List.length_cons,List.length_nil]; omega))]
   simp
theorem Ey {w:ag} (hw:w.length≤18) : ∀(ys pre:ag),w=pre++ys→pre.all dx=true→px (ba w) (bA 0 pre:Nat) (pre.length:Int)=some ((if ys.all dx=true then((bA 0 w:Nat):Int) else 0,ys.all dx,()),())
 | [],pre,h,hp=>by
  rw[List.append_nil] at h
  subst h
  rw[Ca,ax (by rw[ay]; omega)]
  rfl
 | y :: ys,pre,h,hp=>by
  have hl:pre.length < w.length:=by rw[h]; simp
  rw[Ca,aF (by rw[ay]; omega),ly h]
  by_cases h1:y.toNat < 48
  ·have hd:dx y=false:=by simp[dx]; omega
   rw[aF (by omega)]
   simp[hd]
  ·rw[ax (by omega),ly h]
   by_cases h2:57 < y.toNat
   ·have hd:dx y=false:=by simp[dx]; omega
    rw[aF (by omega)]
    simp[hd]
   ·have hd:dx y=true:=by simp[dx]; omega
    rw[ax (by omega),ly h]
    have hv:=Di pre 0 hp
    have hv2:10 ^ pre.length≤10 ^ 17:=Nat.pow_le_pow_right (by decide) (by omega)
    have hv3:bA 0 pre < 100000000000000000:=by
     rw[Nat.zero_add,Nat.one_mul] at hv
     exact Nat.lt_of_lt_of_le hv hv2
    clear hv hv2
    have e1:IntKind.u8.wrap ((y.toNat:Int) - 48)=((y.toNat - 48:Nat):Int):=by rw[Zi (by omega) (by omega)]; omega
    have w1:IntKind.i64.wrap (((bA 0 pre:Nat):Int)*10)=((bA 0 pre:Nat):Int)*10:=wr (by omega) (by omega)
    have w2:IntKind.i64.wrap ((y.toNat - 48:Nat):Int)=((y.toNat - 48:Nat):Int):=wr (by omega) (by omega)
    rw[e1,w1,w2,wr (n:=((bA 0 pre:Nat):Int)*10+((y.toNat - 48:Nat):Int)) (by omega) (by omega),wr (n:=(pre.length:Int)+1) (by omega) (by omega)]
    have e2:((bA 0 pre:Nat):Int)*10+((y.toNat - 48:Nat):Int)=((bA 0 (pre++[y]):Nat):Int):=by rw[Cp]; omega
    have e3:(pre.length:Int)+1=((pre++[y]).length:Int):=by simp
    rw[e2,e3,Ey hw ys (pre++[y]) (by rw[h]; simp) (by simp[hp,hd])]
    simp[hd]
def cU (w:ag) (m:Nat):Bool:=j6 w && decide (w.length≤m)
theorem Cw (w:ag) {m:Nat} (hm:m≤18):dn (ba w) (m:Int)=some ((if cU w m=true then((bA 0 w:Nat):Int) else 0,cU w m,()),()):=by
 rw[Tt,ay]
 cases w with
 | nil =>
  rw[aF (by simp)]
  rfl
 | cons y ys =>
  have hlen:(y :: ys:ag).length=ys.length+1:=rfl
  rw[ax (by omega)]
  by_cases h:(y :: ys:ag).length≤m
  ·have hle:decide ((y :: ys:ag).length≤m)=true:=decide_eq_true h
   rw[ax (by omega),ot]
   have hl:=Ey (w:=y :: ys) (by omega) (y :: ys) [] rfl rfl
   have hl:px (ba (y :: ys)) 0 0=_:=hl
   have h0n:decide (1≤(y :: ys:ag).length)=true:=decide_eq_true (by omega)
   by_cases h0:y=48
   ·subst h0
    rw[if_pos (by rfl)]
    by_cases h1:ys.length=0
    ·rw[ax (by omega),hl]
     have h1':decide ((48 :: ys:ag).length=1)=true:=decide_eq_true (by omega)
     have e:cU (48 :: ys) m=(48 :: ys:ag).all dx:=by
      unfold cU j6
      rw[hle,h0n,h1']
      simp
     rw[e]
    ·rw[aF (by omega)]
     have h1':decide ((48 :: ys:ag).length=1)=false:=decide_eq_false (by omega)
     have e:cU (48 :: ys) m=false:=by
      unfold cU j6
      rw[h1']
      simp
     rw[e]
     rfl
   ·have h0' : ¬((y.toNat:Int) == 48)=true:=by
     simp only[beq_iff_eq]
     intro e
     apply h0
     apply UInt8.toNat_inj.1
     show y.toNat=48
     omega
    rw[if_neg h0',hl]
    have e:cU (y :: ys) m=(y :: ys:ag).all dx:=by
     have h2:decide ((y :: ys:ag).head? = some 48)=false:=decide_eq_false (by simpa using h0)
     unfold cU j6
     rw[hle,h0n,h2]
     simp
    rw[e]
  ·rw[aF (by omega)]
   have e:cU (y :: ys) m=false:=by
    unfold cU
    rw[decide_eq_false h]
    simp
   rw[e]
   rfl
theorem Ft {w:ag} {m:Nat} (h:cU w m=true):Lib.decDigits (bA 0 w)=w∧w.length≤m:=by
 unfold cU at h
 rw[Bool.and_eq_true,decide_eq_true_eq] at h
 exact⟨(PO w h.1).1,h.2⟩
theorem Cx {u m:Nat} (h:(Lib.decDigits u).length≤m):cU (Lib.decDigits u) m=true:=by
 unfold cU
 rw[rs]
 simpa using h
theorem xz {w:ag} (hw:w.length≤281474976710656):iW (ba w) 10 64=some (((cl w).1,(cl w).2,()),()):=by
 rw[Bk]
 show(if(ba w).size≤281474976710656∧(10:Int)=10∧(64:Int)=64 then some (((cl (lb (ba w))).1,(cl (lb (ba w))).2,()),()) else none)=_
 rw[if_pos ⟨by rw[ay]; exact hw,rfl,rfl⟩,dP]
theorem Xr : ∀ r:Fin 10,(cl [UInt8.ofNat (48+r.val)]).1=(r.val:Int):=by decide +kernel
theorem Xs : ∀ r:Fin 100,(cl [UInt8.ofNat (48+r.val / 10),UInt8.ofNat (48+r.val % 10)]).1=(r.val:Int):=by decide +kernel
theorem T3 {r:Nat} (h:r < 100):(cl (Lib.decDigits r)).1=(r:Int):=by
 by_cases h1:r < 10
 ·rw[Lib.decDigits_one h1]
  exact Xr ⟨r,h1⟩
 ·rw[Lib.decDigits_two h1 h]
  exact Xs ⟨r,h⟩
theorem Yp:(fun c=>([65,66,67,68,69,70,71,72,73,74,75,76,77,78,79,80,81,82,83,84,85,86,87,88,89,90]:ag).contains c)=eZ:=funext fun c=>qB (p:=fun c=>([65,66,67,68,69,70,71,72,73,74,75,76,77,78,79,80,81,82,83,84,85,86,87,88,89,90]:ag).contains c=eZ c) (by decide +kernel) c
def ck (w:ag):Bool×ag:=(([36]:ag).isPrefixOf w,if([36]:ag).isPrefixOf w=true then w.drop 1 else w)
theorem JT (w:ag):qE (ck w).1++(ck w).2=w:=by
 unfold ck qE
 cases w with
 | nil=>rfl
 | cons c l =>
  by_cases h:c=36
  ·subst h
   simp
  ·have:([36]:ag).isPrefixOf (c :: l)=false:=by rw[gW]; simp[h]
   simp[this]
theorem MX {b:Bool} {w:ag} (h:w.head? ≠ some 36):ck (qE b++w)=(b,w):=by
 unfold ck qE
 cases b with
 | true=>simp
 | false =>
  cases w with
  | nil=>rfl
  | cons c l =>
   have h':c≠36:=fun e=>h (by rw[e]; rfl)
   have:([36]:ag).isPrefixOf (c :: l)=false:=by rw[gW]; simp[h']
   simp[this]
theorem MY (w:ag):(ck w).2.length≤w.length:=by
 unfold ck
 split <;> simp
def qF (w:ag):bJ:=((((lc ((ck w).2.takeWhile eZ):Nat):Int),(cl (ck ((ck w).2.dropWhile eZ)).2).1,()),(ck w).1,(ck ((ck w).2.dropWhile eZ)).1,())
theorem JU (p:UInt8→Bool) (l:ag):(l.dropWhile p).length≤l.length:=(Co p l).2.2
theorem Yq {w:ag} (hw:w.length≤9223372036854775807):cu (ba w) (⟨#[36]⟩:ByteArray)=some ((ba (ck w).2,(ck w).1,()),()):=s6 w [36] hw
theorem MZ {w:ag} (hw:w.length≤281474976710656) :
  im (ba w)=some ((if bK (qF w).1=true∧fz (qF w)=w then qF w else p0,decide (bK (qF w).1=true∧fz (qF w)=w),()),()):=by
 have l1:=MY w
 have l2:=JU eZ (ck w).2
 have l3:=MY ((ck w).2.dropWhile eZ)
 obtain⟨d1,d2,d3⟩:=Co eZ (ck w).2
 rw[KG,Yq (by omega)]
 simp only[Option.bind_some]
 rw[xx _ _ (by decide +kernel),Yp]
 simp only[Option.bind_some,ay]
 rw[wr (by omega) (by omega),show((ck w).2.length:Int) - (((ck w).2.dropWhile eZ).length:Int)=(((ck w).2.length - ((ck w).2.dropWhile eZ).length:Nat):Int) by omega,G3 (by omega),d1,OM]
 simp only[Option.bind_some]
 rw[fR (by omega),d2,Yq (by omega)]
 simp only[Option.bind_some]
 rw[xz (by omega)]
 simp only[Option.bind_some,sW,oG]
 have e:qF w=((((lc ((ck w).2.takeWhile eZ):Nat):Int),(cl (ck ((ck w).2.dropWhile eZ)).2).1,()),(ck w).1,(ck ((ck w).2.dropWhile eZ)).1,()):=rfl
 rw[←e]
 have e1:(((lc ((ck w).2.takeWhile eZ):Nat):Int),(cl (ck ((ck w).2.dropWhile eZ)).2).1,())=(qF w).1:=rfl
 rw[e1]
 cases hr:bK (qF w).1 with
 | false=>simp
 | true =>
  simp only[Bool.not_true,Bool.false_eq_true,if_false,if_true,dL,true_and]
  by_cases hp:fz (qF w)=w
  ·simp[hp]
  ·simp[hp]
theorem Il : ∀ c:Fin 53,1≤c.val→(gN c.val).all eZ=true:=by decide +kernel
theorem Y4 {y:UInt8} (h:eZ y=true):y≠36:=by
 rintro rfl
 exact absurd h (by decide)
theorem WY {y:UInt8} (h:dx y=true):y≠36∧eZ y=false:=by
 refine⟨?_,?_⟩
 ·rintro rfl
  exact absurd h (by decide)
 ·simp only[dx,eZ,Bool.and_eq_true,decide_eq_true_eq,Bool.and_eq_false_iff,decide_eq_false_iff_not] at h ⊢
  omega
theorem G8 (u:Nat) : ∃ y l,Lib.decDigits u=y :: l∧dx y=true:=by
 have h:=rs u
 unfold j6 at h
 simp only[Bool.and_eq_true,decide_eq_true_eq] at h
 cases hd:Lib.decDigits u with
 | nil=>rw[hd] at h; simp at h
 | cons y l =>
  rw[hd] at h
  refine⟨y,l,rfl,?_⟩
  have:=h.1.1
  simp only[List.all_cons,Bool.and_eq_true] at this
  exact this.1
theorem Xt {c:Nat} (h1:1≤c) (h2:c≤52) (x:ag):(gN c++x).head? ≠ some 36:=by
 have h:=Il ⟨c,by omega⟩ h1
 have hl:=rx c
 simp only at h
 cases hc:gN c with
 | nil=>rw[hc] at hl; simp at hl
 | cons y l =>
  rw[hc] at h
  simp only[List.all_cons,Bool.and_eq_true] at h
  intro e
  simp only[List.cons_append,List.head?_cons,Option.some.injEq] at e
  exact Y4 h.1 e
theorem M0 {c r:Nat} (h1:1≤c) (h2:c≤52) (fc fr:Bool):(ck (tK c r fc fr)).1=fc∧(ck (tK c r fc fr)).2.takeWhile eZ=gN c∧(ck ((ck (tK c r fc fr)).2.dropWhile eZ)).1=fr∧(ck ((ck (tK c r fc fr)).2.dropWhile eZ)).2=Lib.decDigits r:=by
 unfold tK
 rw[MX (Xt h1 h2 _)]
 have hu:=List.all_eq_true.1 (Il ⟨c,by omega⟩ h1)
 simp only at hu ⊢
 obtain⟨y,l,hy,hd⟩:=G8 r
 have hn : ∃ z m,qE fr++Lib.decDigits r=z :: m∧eZ z=false:=by
  cases fr with
  | true=>exact⟨36,_,rfl,by decide⟩
  | false=>exact⟨y,l,hy,(WY hd).2⟩
 obtain⟨z,m,hz,hzu⟩:=hn
 have ht:(qE fr++Lib.decDigits r).takeWhile eZ=[]:=by rw[hz]; simp[hzu]
 have hdr:(qE fr++Lib.decDigits r).dropWhile eZ=qE fr++Lib.decDigits r:=by rw[hz]; simp[hzu]
 rw[List.takeWhile_append_of_pos hu,List.dropWhile_append_of_pos hu,ht,hdr,List.append_nil,MX (by rw[hy]; simp only[List.head?_cons,ne_eq,Option.some.injEq]; exact(WY hd).1)]
 simp
theorem w9 {p:bJ} (h:bK p.1=true) : ∃(c r:Nat) (fc fr:Bool),p=(((c:Int),(r:Int),()),fc,fr,())∧1≤c∧c≤52∧1≤r∧r≤99:=by
 obtain⟨⟨c,r,u⟩,fc,fr,u'⟩:=p
 obtain⟨⟨h1,h2⟩,h3,h4⟩:=s7.1 h
 simp only at h1 h2 h3 h4
 refine⟨c.toNat,r.toNat,fc,fr,?_,by omega,by omega,by omega,by omega⟩
 rw[Int.toNat_of_nonneg (by omega),Int.toNat_of_nonneg (by omega)]
theorem Xu {p:bJ} (h:bK p.1=true):qF (fz p)=p:=by
 obtain⟨c,r,fc,fr,rfl,h1,h2,h3,h4⟩:=w9 h
 obtain⟨e1,e2,e3,e4⟩:=M0 (r:=r) h1 h2 fc fr
 show qF (tK c r fc fr)=_
 unfold qF
 rw[e1,e2,e3,e4,G7 ⟨c,by omega⟩ h1,T3 (by omega)]
def qG (fc:Bool) (ls w2:ag):bJ×Bool :=
 if cU (ck w2).2 2=true∧bK (((lc ls:Nat):Int),((bA 0 (ck w2).2:Nat):Int),())=true then(((((lc ls:Nat):Int),((bA 0 (ck w2).2:Nat):Int),()),fc,(ck w2).1,()),true) else(p0,false)
def cN (w:ag):bJ×Bool:=qG (ck w).1 ((ck w).2.takeWhile eZ) ((ck w).2.dropWhile eZ)
theorem RR {fc:Bool} {ls w2:ag} {f1:Bool} {w3:ag} (h:ck w2=(f1,w3)) :
  ((dn (ba w3) 2).bind fun z2=>(if(!z2.1.2.1)=true then(some ((((0,0,()),false,false,()),false,()),(()))) else((eG (((lc ls:Nat):Int),z2.1.1,())).bind fun z3=>(if(!z3.1.1)=true then(some ((((0,0,()),false,false,()),false,()),(()))) else(some (((((((lc ls:Nat):Int),z2.1.1,()),fc,f1,()):bJ),true,()),(())))))))=some (((qG fc ls w2).1,(qG fc ls w2).2,()),()):=by
 have e:=Cw w3 (m:=2) (by decide)
 have e:dn (ba w3) 2=_:=e
 rw[e]
 simp only[Option.bind_some,mM]
 unfold qG
 rw[h]
 cases hr:cU w3 2 with
 | false=>simp
 | true =>
  simp only[Bool.not_true,Bool.false_eq_true,if_false,if_true,true_and]
  cases ho:bK (((lc ls:Nat):Int),((bA 0 w3:Nat):Int),()) with
  | false=>simp
  | true=>simp
theorem Zj {fc:Bool} {w1 pre ys:ag} (h:w1=pre++ys) (hl:w1.length≤9223372036854775807) :
  (D2 (ba w1) (pre.length:Int) fun y7=>((rk y7).bind fun z8=>(iT (ba w1) (pre.length:Int) fun y8=>(if(decide ((ByteArray.size y8:Int) > 0))=true then(eF y8 0 fun y9=>(if(y9 == 36)=true then(iT y8 1 fun y10=>((dn y10 2).bind fun z9=>(if(!z9.1.2.1)=true then(some ((((0,0,()),false,false,()),false,()),(()))) else((eG (z8.1.1,z9.1.1,())).bind fun z10=>(if(!z10.1.1)=true then(some ((((0,0,()),false,false,()),false,()),(()))) else(some ((((z8.1.1,z9.1.1,()),fc,true,()),true,()),(())))))))) else((dn y8 2).bind fun z11=>(if(!z11.1.2.1)=true then(some ((((0,0,()),false,false,()),false,()),(()))) else((eG (z8.1.1,z11.1.1,())).bind fun z12=>(if(!z12.1.1)=true then(some ((((0,0,()),false,false,()),false,()),(()))) else(some ((((z8.1.1,z11.1.1,()),fc,false,()),true,()),(()))))))))) else((dn y8 2).bind fun z13=>(if(!z13.1.2.1)=true then(some ((((0,0,()),false,false,()),false,()),(()))) else((eG (z8.1.1,z13.1.1,())).bind fun z14=>(if(!z14.1.1)=true then(some ((((0,0,()),false,false,()),false,()),(()))) else(some ((((z8.1.1,z13.1.1,()),fc,false,()),true,()),(())))))))))))
   = (some (((qG fc pre ys).1,(qG fc pre ys).2,()),()):Option ((bJ×Bool×Unit)×Unit)):=by
 subst h
 have hle:pre.length≤(pre++ys).length:=by simp
 rw[G3 hle,List.take_left' rfl,OO]
 simp only[Option.bind_some]
 rw[fR hle,List.drop_left' rfl,ay]
 cases ys with
 | nil =>
  rw[ax (by simp)]
  exact RR rfl
 | cons y l =>
  rw[aF (by simp),ot]
  by_cases hy:y=36
  ·subst hy
   rw[if_pos (by rfl),show(1:Int)=((1:Nat):Int) from rfl,fR (by simp)]
   exact RR (by unfold ck; rw[gW]; simp)
  ·have h0' : ¬((y.toNat:Int) == 36)=true:=by
    simp only[beq_iff_eq]
    intro e
    apply hy
    apply UInt8.toNat_inj.1
    show y.toNat=36
    omega
   rw[if_neg h0']
   exact RR (by unfold ck; rw[gW]; simp[hy])
theorem l7 {fc:Bool} {w1:ag} (hl:w1.length≤9223372036854775806) : ∀(ys pre:ag),w1=pre++ys→ju (ba w1) (pre.length:Int) 0 0 false false 0 0 fc false=some (((qG fc (pre++ys.takeWhile eZ) (ys.dropWhile eZ)).1,(qG fc (pre++ys.takeWhile eZ) (ys.dropWhile eZ)).2,()),())
 | [],pre,h=>by
  have hlen:w1.length=pre.length:=by rw[h]; simp
  rw[vl,ax (by rw[ay]; omega)]
  simpa using Zj (fc:=fc) h (by omega)
 | y :: ys,pre,h=>by
  have hlen:pre.length < w1.length:=by rw[h]; simp
  rw[vl,aF (by rw[ay]; omega),ly h]
  cases hu:eZ y with
  | true =>
   have hu':65≤y.toNat∧y.toNat≤90:=by simpa[eZ] using hu
   rw[aF (by omega),ly h,aF (by omega),wr (by omega) (by omega),show(pre.length:Int)+1=((pre++[y]).length:Int) by simp,l7 hl ys (pre++[y]) (by rw[h]; simp)]
   simp[hu]
  | false =>
   have hk:=Zj (fc:=fc) h (by omega)
   rw[List.takeWhile_cons_of_neg (by simp[hu]),List.dropWhile_cons_of_neg (by simp[hu]),List.append_nil]
   by_cases h1:65≤y.toNat
   ·have h2 : ¬y.toNat≤90:=by
     intro h2
     simp[eZ,h1,h2] at hu
    rw[aF (by omega),ly h,ax (by omega)]
    exact hk
   ·rw[ax (by omega)]
    exact hk
theorem tx {w:ag} (hw:w.length≤281474976710656):nf (ba w)=some (((cN w).1,(cN w).2,()),()):=by
 rw[Kw,ay]
 cases w with
 | nil =>
  rw[ax (by simp)]
  exact l7 (fc:=false) (w1:=[]) (by simp) [] [] rfl
 | cons y l =>
  rw[List.length_cons] at hw
  rw[aF (by simp),ot]
  by_cases hy:y=36
  ·subst hy
   rw[if_pos (by rfl),show(1:Int)=((1:Nat):Int) from rfl,fR (by simp)]
   have:=l7 (fc:=true) (w1:=l) (by omega) l [] rfl
   have e:ck (36 :: l)=(true,l):=by unfold ck; rw[gW]; simp
   unfold cN
   rw[e]
   exact this
  ·have h0' : ¬((y.toNat:Int) == 36)=true:=by
    simp only[beq_iff_eq]
    intro e
    apply hy
    apply UInt8.toNat_inj.1
    show y.toNat=36
    omega
   rw[if_neg h0']
   have:=l7 (fc:=false) (w1:=y :: l) (by rw[List.length_cons]; omega) (y :: l) [] rfl
   have e:ck (y :: l)=(false,y :: l):=by unfold ck; rw[gW]; simp[hy]
   unfold cN
   rw[e]
   exact this
theorem Xv {w:ag} (h:(cN w).2=true):bK (cN w).1.1=true∧fz (cN w).1=w:=by
 unfold cN qG at h ⊢
 split at h
 ·rename_i hc
  rw[if_pos hc]
  refine⟨hc.2,?_⟩
  obtain⟨⟨k1,k2⟩,k3,k4⟩:=s7.1 hc.2
  simp only at k1 k2 k3 k4
  obtain⟨c1,c2⟩:=T2 (w:=(ck w).2.takeWhile eZ) (by omega)
  obtain⟨r1,r2⟩:=Ft hc.1
  unfold fz tK
  simp only[Int.toNat_natCast]
  rw[c2,r1,JT,List.takeWhile_append_dropWhile,JT]
 ·cases h
theorem pA {p:bJ} (h:bK p.1=true):cN (fz p)=(p,true):=by
 obtain⟨c,r,fc,fr,rfl,h1,h2,h3,h4⟩:=w9 h
 obtain⟨e1,e2,e3,e4⟩:=M0 (r:=r) h1 h2 fc fr
 show cN (tK c r fc fr)=_
 unfold cN qG
 rw[e1,e2,e3,e4,G7 ⟨c,by omega⟩ h1,rq,if_pos ⟨Cx (um h4),h⟩]
theorem Xw {w:ag} (h:(cN w).2=false):cN w=(p0,false):=by
 unfold cN qG at h ⊢
 split at h
 ·cases h
 ·rename_i hc
  rw[if_neg hc]
theorem oI {w:ag} (hw:w.length≤281474976710656):im (ba w)=some (((cN w).1,(cN w).2,()),()):=by
 rw[MZ hw]
 by_cases h:bK (qF w).1=true∧fz (qF w)=w
 ·have:=pA h.1
  rw[h.2] at this
  rw[if_pos h,decide_eq_true h,this]
 ·rw[if_neg h,decide_eq_false h]
  cases h2:(cN w).2 with
  | false=>rw[Xw h2]
  | true =>
   obtain⟨k1,k2⟩:=Xv h2
   refine absurd ?_ h
   have:=Xu k1
   rw[k2] at this
   rw[this]
   exact⟨k1,k2⟩
def jh:ag:=[84,82,85,69]
def jN:ag:=[70,65,76,83,69]
def fD (w:ag):Int:=if dg 5=ba w then 5 else if dg 4=ba w then 4 else if dg 3=ba w then 3 else if dg 2=ba w then 2 else if dg 1=ba w then 1 else 0
theorem Xx {w:ag} (h:fD w≠0):dg (fD w)=ba w∧1≤fD w∧fD w≤5:=by
 unfold fD at h ⊢
 split
 ·exact⟨‹_›,by decide,by decide⟩
 ·split
  ·exact⟨‹_›,by decide,by decide⟩
  ·split
   ·exact⟨‹_›,by decide,by decide⟩
   ·split
    ·exact⟨‹_›,by decide,by decide⟩
    ·split
     ·exact⟨‹_›,by decide,by decide⟩
     ·rename_i h1 h2 h3 h4 h5
      simp[h1,h2,h3,h4,h5] at h
theorem JV : ∀ n:Fin 6,1≤n.val→fD (lb (dg (n.val:Int)))=(n.val:Int):=by decide +kernel
def xa (w:ag):ab :=
 if w=[] then v0 else
 if w.head? = some 39 then vT (ba (w.drop 1)) else
 if w=jh then vB true else
 if w=jN then vB false else
 if w.head? = some 35 then(4,fD w,eS,()) else
 if w.head? = some 45 then(if cU (w.drop 1) 16=true∧bA 0 (w.drop 1)≠0 then vN (-((bA 0 (w.drop 1):Nat):Int)) else(9,0,eS,())) else
 if cU w 16=true then vN ((bA 0 w:Nat):Int) else(9,0,eS,())
def bb (w:ag):ab×Bool:=if ao (xa w)=true then(xa w,true) else(v0,false)
theorem PT {v:ab} (h:v.2.2.1.size≤9223372036854775807) {a b:Int} {c:ByteArray}:aK a b c v.1 v.2.1 v.2.2.1=some ((if ao v=true then v else v0,ao v,()),()):=by
 rw[DT,show(v.1,v.2.1,v.2.2.1,())=v from rfl,fG h]
 simp only[Option.bind_some]
 cases ao v <;> rfl
theorem vF {w:ag} {n:Int} (h0:0≤n) (h1:n≤5) {a b e N:Int} {c f:ByteArray}:fw (ba w) n a b c e N f=fw (ba w) (n+1) a b c e (if dg n=ba w then n else N) f:=by
 rw[tF,aF h1,Al h0 h1]
 simp only[Option.bind_some,AV,decide_eq_true_eq]
 rw[wr (by omega) (by omega)]
 split <;> rfl
theorem Yr {w:ag}:fw (ba w) 1 0 0 eS 4 0 eS=some ((if ao (4,fD w,eS,())=true then(4,fD w,eS,()) else v0,ao (4,fD w,eS,()),()),()):=by
 rw[vF (by decide) (by decide),vF (by decide) (by decide),vF (by decide) (by decide),vF (by decide) (by decide),vF (by decide) (by decide),tF,ax (by decide)]
 exact PT (v:=(4,fD w,eS,())) (by show eS.size≤_; decide)
theorem V0 {w:ag} (hw:w.length≤9223372036854775807) {y:UInt8} {l:ag} (h:w=y :: l) :
  (if((y.toNat:Int) == 45)=true then(iT (ba w) 1 fun y5=>((dn y5 16).bind fun z1=>(if(!z1.1.2.1)=true then(some (((0,0,(⟨#[]⟩:ByteArray),()),false,()),(()))) else(if((y.toNat:Int) == 45)=true then(if(z1.1.1 == 0)=true then(some (((0,0,(⟨#[]⟩:ByteArray),()),false,()),(()))) else(if((y.toNat:Int) == 45)=true then(aK 0 0 (⟨#[]⟩:ByteArray) 1 (IntKind.i64.wrap (0 - z1.1.1)) (⟨#[]⟩:ByteArray)) else(aK 0 0 (⟨#[]⟩:ByteArray) 1 z1.1.1 (⟨#[]⟩:ByteArray)))) else(if((y.toNat:Int) == 45)=true then(aK 0 0 (⟨#[]⟩:ByteArray) 1 (IntKind.i64.wrap (0 - z1.1.1)) (⟨#[]⟩:ByteArray)) else(aK 0 0 (⟨#[]⟩:ByteArray) 1 z1.1.1 (⟨#[]⟩:ByteArray)))))))
   else((dn (ba w) 16).bind fun z2=>(if(!z2.1.2.1)=true then(some (((0,0,(⟨#[]⟩:ByteArray),()),false,()),(()))) else(if((y.toNat:Int) == 45)=true then(if(z2.1.1 == 0)=true then(some (((0,0,(⟨#[]⟩:ByteArray),()),false,()),(()))) else(if((y.toNat:Int) == 45)=true then(aK 0 0 (⟨#[]⟩:ByteArray) 1 (IntKind.i64.wrap (0 - z2.1.1)) (⟨#[]⟩:ByteArray)) else(aK 0 0 (⟨#[]⟩:ByteArray) 1 z2.1.1 (⟨#[]⟩:ByteArray)))) else(if((y.toNat:Int) == 45)=true then(aK 0 0 (⟨#[]⟩:ByteArray) 1 (IntKind.i64.wrap (0 - z2.1.1)) (⟨#[]⟩:ByteArray)) else(aK 0 0 (⟨#[]⟩:ByteArray) 1 z2.1.1 (⟨#[]⟩:ByteArray)))))))
   = (let v:ab:=if w.head? = some 45 then(if cU (w.drop 1) 16=true∧bA 0 (w.drop 1)≠0 then vN (-((bA 0 (w.drop 1):Nat):Int)) else(9,0,eS,())) else if cU w 16=true then vN ((bA 0 w:Nat):Int) else(9,0,eS,())
    some ((if ao v=true then v else v0,ao v,()),())):=by
 have e9:ao (9,0,eS,())=false:=by decide
 have hint : ∀ x:ag,dn (ba x) 16=_:=fun x=>Cw x (m:=16) (by decide)
 have hrange : ∀ x:ag,cU x 16=true→bA 0 x < 10 ^ 16:=by
  intro x hx
  unfold cU j6 at hx
  simp only[Bool.and_eq_true,decide_eq_true_eq] at hx
  have:=Di x 0 hx.1.1.1
  exact Nat.lt_of_lt_of_le (by simpa using this) (Nat.pow_le_pow_right (by decide) hx.2)
 subst h
 by_cases hy:y=45
 ·subst hy
  have e:(((45:UInt8).toNat:Int) == 45)=true:=rfl
  simp only[e,if_true,List.head?_cons,List.drop_succ_cons,List.drop_zero]
  rw[show(1:Int)=((1:Nat):Int) from rfl,fR (by simp)]
  simp only[List.drop_succ_cons,List.drop_zero,hint,Option.bind_some]
  cases hr:cU l 16 with
  | false=>simp[e9]; rfl
  | true =>
   have:=hrange l hr
   by_cases h0:bA 0 l=0
   ·simp[h0,e9]; rfl
   ·have h0' : ¬(((bA 0 l:Nat):Int) == 0)=true:=by simp only[beq_iff_eq]; omega
    simp only[Bool.not_true,Bool.false_eq_true,if_false,if_true,h0',ne_eq,h0,not_false_eq_true,and_self]
    rw[wr (by omega) (by omega),show(0:Int) - ((bA 0 l:Nat):Int) = -((bA 0 l:Nat):Int) by omega]
    exact PT (v:=vN _) (by show eS.size≤_; decide)
 ·have e : ¬((y.toNat:Int) == 45)=true:=by
   simp only[beq_iff_eq]
   intro e
   apply hy
   apply UInt8.toNat_inj.1
   show y.toNat=45
   omega
  have e2 : ¬(some y=some (45:UInt8)):=by simpa using hy
  simp only[e,if_false,List.head?_cons,e2,hint,Option.bind_some]
  cases hr:cU (y :: l) 16 with
  | false=>simp[e9]; rfl
  | true =>
   have:=hrange _ hr
   simp only[Bool.not_true,Bool.false_eq_true,if_false,if_true]
   exact PT (v:=vN _) (by show eS.size≤_; decide)
theorem oJ {w:ag} (hw:w.length≤9223372036854775807):kW (ba w)=some (((bb w).1,(bb w).2,()),()):=by
 have aR : ∀ v:ab,xa w=v→some ((if ao v=true then v else v0,ao v,()),())=(some (((bb w).1,(bb w).2,()),()):Option ((ab×Bool×Unit)×Unit)):=by
  intro v hv
  unfold bb
  rw[hv]
  cases ao v <;> rfl
 rw[Ky]
 have e0:(ByteArray.toList (ba w) == ByteArray.toList (⟨#[]⟩:ByteArray))=decide (w=[]):=dL (b:=[])
 have e1:(ByteArray.toList (ba w) == ByteArray.toList (⟨#[84,82,85,69]⟩:ByteArray))=decide (w=jh):=dL (b:=jh)
 have e2:(ByteArray.toList (ba w) == ByteArray.toList (⟨#[70,65,76,83,69]⟩:ByteArray))=decide (w=jN):=dL (b:=jN)
 rw[e0,e1,e2]
 cases w with
 | nil =>
  rw[aF rfl]
  exact aR v0 rfl
 | cons y l =>
  rw[ax (by simp)]
  simp only[ot]
  rw[Fm y 39 (n:=39) rfl,Fm y 35 (n:=35) rfl]
  have hv:=xa.eq_def (y :: l)
  rw[if_neg (by simp)] at hv
  by_cases h39:y=39
  ·rw[aF h39,show(1:Int)=((1:Nat):Int) from rfl,fR (by simp)]
   rw[if_pos (by rw[h39]; rfl)] at hv
   rw[List.length_cons] at hw
   exact(PT (v:=vT (ba ((y :: l).drop 1))) (by show(ba _).size≤_; rw[ay]; simp; omega)).trans (aR _ hv)
  ·rw[ax h39]
   rw[if_neg (by simpa using h39)] at hv
   by_cases ht:(y :: l)=jh
   ·rw[if_pos ht] at hv
    rw[aF ht,aF ht,aF ht]
    exact(PT (v:=vB true) (by decide)).trans (aR _ hv)
   ·rw[if_neg ht] at hv
    rw[ax ht]
    by_cases hf:(y :: l)=jN
    ·rw[if_pos hf] at hv
     rw[aF hf,ax ht]
     exact(PT (v:=vB false) (by decide)).trans (aR _ hv)
    ·rw[if_neg hf] at hv
     rw[ax hf]
     by_cases h35:y=35
     ·rw[aF h35]
      rw[if_pos (by rw[h35]; rfl)] at hv
      exact Yr.trans (aR _ hv)
     ·rw[ax h35]
      rw[if_neg (by simpa using h35)] at hv
      exact(V0 hw rfl).trans (aR _ hv)
theorem xb {n:Int} (h:n < 0):dr n=ba (45 :: Lib.decDigits (-n).toNat):=by
 rw[w6 h,show -n=((-n).toNat:Int) by omega,mO,show(⟨#[45]⟩:ByteArray)=ba [45] from rfl,oq]
 congr 2
theorem zd {u:Nat}:Lib.decDigits u≠[]∧(Lib.decDigits u).head? ≠ some 39∧(Lib.decDigits u).head? ≠ some 35∧(Lib.decDigits u).head? ≠ some 45∧Lib.decDigits u≠jh∧Lib.decDigits u≠jN:=by
 obtain⟨y,l,hy,hd⟩:=G8 u
 rw[hy]
 have hn : ∀ c:UInt8,dx c=false→y≠c:=by
  rintro c hc rfl
  rw[hd] at hc
  cases hc
 refine⟨by simp,?_,?_,?_,?_,?_⟩
 ·simpa using hn 39 (by decide)
 ·simpa using hn 35 (by decide)
 ·simpa using hn 45 (by decide)
 ·intro e
  exact hn 84 (by decide) (List.cons.inj e).1
 ·intro e
  exact hn 70 (by decide) (List.cons.inj e).1
theorem RU {u:Nat} (h:u≤1000000000000000):(Lib.decDigits u).length≤16:=GU 15 u (by omega)
theorem Xy {v:ab} (h:ao v=true) (k:v.1≠2):v.2.2.1=eS:=by
 unfold ao at h
 rw[if_neg k] at h
 simp only[Bool.and_eq_true,decide_eq_true_eq] at h
 exact h.1
theorem Xz {v:ab} (h:ao v=true) (k:v.1=0):v.2.1=0:=by
 unfold ao at h
 rw[if_neg (by omega),if_pos k] at h
 simp only[Bool.and_eq_true,decide_eq_true_eq] at h
 exact h.2
theorem PU {v:ab} (h:ao v=true) (k:v.1=2):v.2.1=0:=by
 unfold ao at h
 rw[if_pos k] at h
 simp only[Bool.and_eq_true,decide_eq_true_eq] at h
 exact h.1
theorem sn {v:ab} (h:ao v=true):v=v0∨(∃ n,v=vN n ∧ -1000000000000000≤n∧n≤1000000000000000)∨(∃ s,v=vT s)∨(∃ b,v=vB b) ∨ ∃ n:Fin 6,v=vE (n.val:Int)∧1≤n.val:=by
 obtain⟨k,n,s,u⟩:=v
 have hS:=fun hk=>Xy h hk
 rcases GW h with hk | hk | hk | hk | hk <;> simp only at hk <;> subst hk
 ·have h0:=Xz h rfl
  have h1:=hS (by show(_:Int)≠2; omega)
  simp only at h0 h1
  subst h0; subst h1
  exact .inl rfl
 ·have h0:=yU h rfl
  have h1:=hS (by show(_:Int)≠2; omega)
  simp only at h0 h1
  subst h1
  exact .inr (.inl ⟨n,rfl,h0.1,h0.2⟩)
 ·have h0:=PU h rfl
  simp only at h0
  subst h0
  exact .inr (.inr (.inl ⟨s,rfl⟩))
 ·have h0:=Ii h rfl
  have h1:=hS (by show(_:Int)≠2; omega)
  simp only at h0 h1
  subst h1
  refine .inr (.inr (.inr (.inl ⟨decide (n=1),?_⟩)))
  have:n=0∨n=1:=by omega
  rcases this with rfl | rfl <;> rfl
 ·have h0:=Dg h rfl
  have h1:=hS (by show(_:Int)≠2; omega)
  simp only at h0 h1
  subst h1
  refine .inr (.inr (.inr (.inr ⟨⟨n.toNat,by omega⟩,?_,by simp; omega⟩)))
  show _=vE ((n.toNat:Nat):Int)
  rw[Int.toNat_of_nonneg (by omega)]
  rfl
theorem V1 {v:ab} (h:ao v=true):xa (lb (cB v))=v:=by
 rcases sn h with rfl | ⟨n,rfl,h0,h1⟩ | ⟨s,rfl⟩ | ⟨b,rfl⟩ | ⟨n,rfl,h0⟩
 ·rfl
 ·have e:cB (vN n)=dr n:=rfl
  rw[e]
  by_cases hn:n < 0
  ·rw[xb hn,dP]
   have hr:cU (Lib.decDigits (-n).toNat) 16=true:=Cx (RU (by omega))
   unfold xa
   simp only[List.head?_cons,List.drop_succ_cons,List.drop_zero,hr,rq]
   rw[if_neg (by simp),if_neg (by decide),if_neg (by unfold jh; simp),if_neg (by unfold jN; simp),if_neg (by decide),if_pos trivial,if_pos ⟨trivial,by omega⟩]
   congr 1
   omega
  ·rw[show n=(n.toNat:Int) by omega,mO,dP]
   have hr:cU (Lib.decDigits n.toNat) 16=true:=Cx (RU (by omega))
   obtain⟨d1,d2,d3,d4,d5,d6⟩:=zd (u:=n.toNat)
   unfold xa
   rw[if_neg d1,if_neg d2,if_neg d5,if_neg d6,if_neg d3,if_neg d4,if_pos hr,rq]
 ·have e:lb (cB (vT s))=39 :: lb s:=by
   show lb ((⟨#[39]⟩:ByteArray)++s)=_
   rw[←eO s,show(⟨#[39]⟩:ByteArray)=ba [39] from rfl,oq,dP]
   simp
  rw[e]
  unfold xa
  rw[if_neg (by simp),if_pos (by rfl)]
  simp only[List.drop_succ_cons,List.drop_zero,eO]
 ·cases b <;> rfl
 ·have e:lb (cB (vE (n.val:Int)))=lb (dg (n.val:Int)):=rfl
  rw[e]
  have h1 : ∀ n:Fin 6,1≤n.val→lb (dg (n.val:Int))≠[]∧(lb (dg (n.val:Int))).head? = some 35∧lb (dg (n.val:Int))≠jh∧lb (dg (n.val:Int))≠jN:=by decide +kernel
  obtain⟨a1,a2,a3,a4⟩:=h1 n h0
  unfold xa
  rw[if_neg a1,if_neg (by rw[a2]; decide),if_neg a3,if_neg a4,if_pos a2,JV n h0]
  rfl
theorem Ax {v:ab} (h:ao v=true):bb (lb (cB v))=(v,true):=by
 unfold bb
 rw[V1 h,if_pos h]
theorem Ys {w:ag} (h:ao (xa w)=true):cB (xa w)=ba w:=by
 unfold xa at h ⊢
 split
 ·rename_i hw
  rw[hw]
  rfl
 ·rename_i hw
  rw[if_neg hw] at h
  split
  ·rename_i h39
   cases w with
   | nil=>cases h39
   | cons y l =>
    simp only[List.head?_cons,Option.some.injEq] at h39
    subst h39
    show(⟨#[39]⟩:ByteArray)++ba l=_
    rw[show(⟨#[39]⟩:ByteArray)=ba [39] from rfl,oq]
    rfl
  ·rename_i h39
   rw[if_neg h39] at h
   split
   ·rename_i ht
    rw[ht]
    rfl
   ·rename_i ht
    rw[if_neg ht] at h
    split
    ·rename_i hf
     rw[hf]
     rfl
    ·rename_i hf
     rw[if_neg hf] at h
     split
     ·rename_i h35
      rw[if_pos h35] at h
      have:=Dg h rfl
      simp only at this
      exact(Xx (by omega)).1
     ·rename_i h35
      rw[if_neg h35] at h
      have e9:ao (9,0,eS,())=false:=by decide
      split
      ·rename_i h45
       rw[if_pos h45] at h
       split
       ·rename_i hc
        cases w with
        | nil=>cases h45
        | cons y l =>
         simp only[List.head?_cons,Option.some.injEq] at h45
         subst h45
         simp only[List.drop_succ_cons,List.drop_zero] at hc ⊢
         show dr (-((bA 0 l:Nat):Int))=_
         rw[xb (by omega),show(- -((bA 0 l:Nat):Int)).toNat=bA 0 l by omega,(Ft hc.1).1]
       ·rename_i hc
        rw[if_neg hc,e9] at h
        cases h
      ·rename_i h45
       rw[if_neg h45] at h
       split
       ·rename_i hc
        show dr ((bA 0 w:Nat):Int)=_
        rw[mO,(Ft hc).1]
       ·rename_i hc
        rw[if_neg hc,e9] at h
        cases h
theorem oZ {w:ag} (h:(bb w).2=true):ao (bb w).1=true∧cB (bb w).1=ba w:=by
 unfold bb at h ⊢
 split at h
 ·rename_i hc
  rw[if_pos hc]
  exact⟨hc,Ys hc⟩
 ·cases h
theorem M1 {w:ag} (h:(bb w).2=false):bb w=(v0,false):=by
 unfold bb at h ⊢
 split at h
 ·cases h
 ·rename_i hc
  rw[if_neg hc]
theorem PV : ∀(l:ag) (a:Nat),a≤bA a l
 | [],a=>Nat.le_refl _
 | c :: l,a=>by
  have:=PV l (a*10+(c.toNat - 48))
  show a≤bA (a*10+(c.toNat - 48)) l
  omega
theorem KY : ∀(l:ag) (a:Nat),l.all dx=true→bA a l≤100000000000000000→Lib.parseUintM 18446744073709551615 a l = .ok (bA a l)
 | [],a,_,_=>rfl
 | c :: l,a,h,hv=>by
  simp only[List.all_cons,Bool.and_eq_true] at h
  have hd:48≤c.toNat∧c.toNat≤57:=by simpa[dx] using h.1
  have hg:=PV l (a*10+(c.toNat - 48))
  have hv':bA (a*10+(c.toNat - 48)) l≤100000000000000000:=hv
  unfold Lib.parseUintM
  rw[if_pos hd,if_neg (by omega),if_neg (by omega),KY l _ h.2 hv']
  rfl
theorem Dp {l:ag} (h:j6 l=true):l.all dx=true:=by
 unfold j6 at h
 simp only[Bool.and_eq_true] at h
 exact h.1.1
theorem T4 {u:Nat} (h:u≤1000000000000000):Lib.parseUintB 64 (Lib.decDigits u) = .ok u:=by
 unfold Lib.parseUintB
 rw[if_neg zd.1]
 have:=KY (Lib.decDigits u) 0 (Dp (rs u)) (by rw[rq]; omega)
 rw[rq] at this
 exact this
theorem RX {u:Nat} (h:u≤1000000000000000):cl (Lib.decDigits u)=((u:Int),true):=by
 obtain⟨y,l,hy,hd⟩:=G8 u
 have hd':48≤y.toNat∧y.toNat≤57:=by simpa[dx] using hd
 have hp:=T4 h
 unfold cl
 have:Lib.parseIntB 64 (Lib.decDigits u) = .ok (u:Int):=by
  rw[hy] at hp ⊢
  unfold Lib.parseIntB
  simp only
  rw[if_neg (by omega),hp]
  simp only
  rw[if_neg (by omega),if_neg (by omega),if_neg (by omega)]
 rw[this]
theorem RY {u:Nat} (h:u≤1000000000000000):cl (45 :: Lib.decDigits u)=(-(u:Int),true):=by
 have hp:=T4 h
 unfold cl
 have:Lib.parseIntB 64 (45 :: Lib.decDigits u) = .ok (-(u:Int)):=by
  unfold Lib.parseIntB
  simp only
  have h45:(45:UInt8).toNat=45:=rfl
  rw[if_pos (.inr h45),hp]
  simp only
  rw[if_neg (by omega),if_neg (by omega),if_pos h45]
 rw[this]
def cV (w:ag):ab :=
 if([39]:ag).isPrefixOf w=true then vT (ba (w.drop 1)) else
 if w=jN then vB (decide (w=jh)) else
 if w=jh then vB (decide (w=jh)) else
 if([35]:ag).isPrefixOf w=true then(if fD w=0 then v0 else vE (fD w)) else
 if w≠[] then vN (cl w).1 else v0
theorem Dq {v:ab} {w:ag} (h:v.2.2.1.size≤9223372036854775807):((dc v).bind fun z2=>(if(!z2.1.1)=true then(some (((0,0,(⟨#[]⟩:ByteArray),()),false,()),(()))) else((fJ v).bind fun z3=>(if(!(ByteArray.toList z3.1.1 == ByteArray.toList (ba w)))=true then(some (((0,0,(⟨#[]⟩:ByteArray),()),false,()),(()))) else(some ((v,true,()),(())))))))=some ((if ao v=true∧cB v=ba w then v else v0,decide (ao v=true∧cB v=ba w),()),()):=by
 rw[eY h]
 simp only[Option.bind_some]
 cases ho:ao v with
 | false=>simp; rfl
 | true =>
  rw[tv ho]
  simp only[Option.bind_some,Bool.not_true,Bool.false_eq_true,if_false,AV,true_and]
  by_cases hv:cB v=ba w
  ·simp[hv]
  ·simp[hv]; rfl
theorem Yt {w:ag} (hc : ∀ v:ab,ao v=true→cB v=ba w→cV w=v):(if ao (cV w)=true∧cB (cV w)=ba w then cV w else v0)=(bb w).1∧decide (ao (cV w)=true∧cB (cV w)=ba w)=(bb w).2:=by
 by_cases h:ao (cV w)=true∧cB (cV w)=ba w
 ·have:=Ax h.1
  rw[h.2,dP] at this
  rw[if_pos h,decide_eq_true h,this]
  exact⟨rfl,rfl⟩
 ·rw[if_neg h,decide_eq_false h]
  cases h2:(bb w).2 with
  | false=>rw[M1 h2]; exact⟨rfl,rfl⟩
  | true =>
   obtain⟨k1,k2⟩:=oZ h2
   refine absurd ?_ h
   rw[hc _ k1 k2]
   exact⟨k1,k2⟩
theorem XA {v:ab} (h:ao v=true):cV (lb (cB v))=v:=by
 rcases sn h with rfl | ⟨n,rfl,h0,h1⟩ | ⟨s,rfl⟩ | ⟨b,rfl⟩ | ⟨n,rfl,h0⟩
 ·rfl
 ·have e:cB (vN n)=dr n:=rfl
  rw[e]
  by_cases hn:n < 0
  ·rw[xb hn,dP]
   unfold cV
   rw[if_neg (by simp),if_neg (by unfold jN; simp),if_neg (by unfold jh; simp),if_neg (by simp),if_pos (by simp),RY (by omega)]
   congr 1
   simp only
   omega
  ·rw[show n=(n.toNat:Int) by omega,mO,dP]
   obtain⟨d1,d2,d3,d4,d5,d6⟩:=zd (u:=n.toNat)
   have hp:=RX (u:=n.toNat) (by omega)
   obtain⟨y,l,hy,hd⟩:=G8 n.toNat
   rw[hy] at d1 d2 d3 d4 d5 d6 hp ⊢
   unfold cV
   rw[if_neg (by rw[gW]; simpa using d2),if_neg d6,if_neg d5,if_neg (by rw[gW]; simpa using d3),if_pos d1,hp]
 ·have e:lb (cB (vT s))=39 :: lb s:=by
   show lb ((⟨#[39]⟩:ByteArray)++s)=_
   rw[←eO s,show(⟨#[39]⟩:ByteArray)=ba [39] from rfl,oq,dP]
   simp
  rw[e]
  unfold cV
  rw[if_pos (by simp)]
  simp only[List.drop_succ_cons,List.drop_zero,eO]
 ·cases b <;> rfl
 ·have e:lb (cB (vE (n.val:Int)))=lb (dg (n.val:Int)):=rfl
  rw[e]
  have h1 : ∀ n:Fin 6,1≤n.val→([39]:ag).isPrefixOf (lb (dg (n.val:Int)))=false∧([35]:ag).isPrefixOf (lb (dg (n.val:Int)))=true∧lb (dg (n.val:Int))≠jh∧lb (dg (n.val:Int))≠jN:=by decide +kernel
  obtain⟨a1,a2,a3,a4⟩:=h1 n h0
  unfold cV
  rw[if_neg (by rw[a1]; decide),if_neg a4,if_neg a3,if_pos a2,JV n h0,if_neg (by omega)]
theorem ze {w:ag} {n:Int} (h0:0≤n) (h1:n≤5) {a b d e:Int} {c f:ByteArray}:g8 (ba w) n a b c d e f=g8 (ba w) (n+1) a b c (if dg n=ba w then 4 else d) (if dg n=ba w then n else e) (if dg n=ba w then eS else f):=by
 rw[vq,aF h1,tu h0 h1]
 simp only[Option.bind_some,AV,decide_eq_true_eq,gc]
 rw[wr (by omega) (by omega)]
 split <;> rfl
theorem Im {α:Type} (w:ag) (f:Int→α) (z:α) (hz:z=f 0):(if dg 5=ba w then f 5 else if dg 4=ba w then f 4 else if dg 3=ba w then f 3 else if dg 2=ba w then f 2 else if dg 1=ba w then f 1 else z)=f (fD w):=by
 unfold fD
 subst hz
 repeat' split <;> first | rfl | skip
theorem Y5 {w:ag}:g8 (ba w) 1 0 0 eS 0 0 eS=some ((if ao (if fD w=0 then v0 else vE (fD w))=true∧cB (if fD w=0 then v0 else vE (fD w))=ba w then(if fD w=0 then v0 else vE (fD w)) else v0,decide (ao (if fD w=0 then v0 else vE (fD w))=true∧cB (if fD w=0 then v0 else vE (fD w))=ba w),()),()):=by
 rw[ze (by decide) (by decide),ze (by decide) (by decide),ze (by decide) (by decide),ze (by decide) (by decide),ze (by decide) (by decide),vq,ax (by decide)]
 have e1:=Im w (fun n=>if n=0 then(0:Int) else 4) 0 (by simp)
 have e2:=Im w (fun n=>n) 0 rfl
 have e3:=Im w (fun n=>eS) eS rfl
 simp only[show(1:Int)+1=2 from rfl,show(2:Int)+1=3 from rfl,show(3:Int)+1=4 from rfl,show(4:Int)+1=5 from rfl]
 simp only[show(5:Int)=0↔False by decide,show(4:Int)=0↔False by decide,show(3:Int)=0↔False by decide,show(2:Int)=0↔False by decide,show(1:Int)=0↔False by decide,if_false] at e1
 rw[e1,e2,e3]
 have e:((if fD w=0 then(0:Int) else 4),fD w,eS,())=(if fD w=0 then v0 else vE (fD w)):=by
  by_cases h:fD w=0
  ·rw[if_pos h,if_pos h,h]
   rfl
  ·rw[if_neg h,if_neg h]
   rfl
 rw[e]
 exact Dq (by split <;> (show eS.size≤_; decide))
theorem lz {w:ag} (hw:w.length≤281474976710656):dZ (ba w)=some (((bb w).1,(bb w).2,()),()):=by
 obtain⟨p1,p2⟩:=Yt (w:=w) (fun v h1 h2=>by have:=XA h1; rw[h2,dP] at this; exact this)
 have aR : ∀ v:ab,cV w=v→(some ((if ao v=true∧cB v=ba w then v else v0,decide (ao v=true∧cB v=ba w),()),()):Option ((ab×Bool×Unit)×Unit))=some (((bb w).1,(bb w).2,()),()):=by
  rintro v rfl
  rw[p1,p2]
 have hv:=cV.eq_def w
 have e1:(ByteArray.toList (ba w) == ByteArray.toList (⟨#[84,82,85,69]⟩:ByteArray))=decide (w=jh):=dL (b:=jh)
 have e2:(ByteArray.toList (ba w) == ByteArray.toList (⟨#[70,65,76,83,69]⟩:ByteArray))=decide (w=jN):=dL (b:=jN)
 have e0:(ByteArray.toList (ba w) == ByteArray.toList (⟨#[]⟩:ByteArray))=decide (w=[]):=dL (b:=[])
 rw[KE,show(⟨#[39]⟩:ByteArray)=ba [39] from rfl,s6 w [39] (by omega),show(⟨#[35]⟩:ByteArray)=ba [35] from rfl,s5 w [35] (by omega),e0,e1,e2]
 simp only[Option.bind_some,sY]
 cases h39:([39]:ag).isPrefixOf w with
 | true =>
  rw[if_pos h39] at hv
  simp only[if_true]
  refine(Dq (v:=vT (ba (w.drop 1))) ?_).trans (aR _ hv)
  show(ba _).size≤_
  rw[ay]
  simp
  omega
 | false =>
  rw[if_neg (by rw[h39]; decide)] at hv
  simp only[Bool.false_eq_true,if_false]
  by_cases hf:w=jN
  ·rw[if_pos hf] at hv
   rw[aF hf]
   exact(Dq (v:=vB (decide (w=jh))) (by show eS.size≤_; decide)).trans (aR _ hv)
  ·rw[if_neg hf] at hv
   rw[ax hf]
   by_cases ht:w=jh
   ·rw[if_pos ht] at hv
    rw[aF ht]
    exact(Dq (v:=vB (decide (w=jh))) (by show eS.size≤_; decide)).trans (aR _ hv)
   ·rw[if_neg ht] at hv
    rw[ax ht]
    cases h35:([35]:ag).isPrefixOf w with
    | true =>
     rw[if_pos h35] at hv
     simp only[if_true]
     exact Y5.trans (aR _ hv)
    | false =>
     rw[if_neg (by rw[h35]; decide)] at hv
     simp only[Bool.false_eq_true,if_false]
     by_cases he:w=[]
     ·rw[if_neg (by simpa using he)] at hv
      simp only[he,decide_true,Bool.not_true,Bool.false_eq_true,if_false]
      rw[he] at hv aR
      exact(Dq (v:=v0) (w:=[]) (by decide)).trans (aR _ hv)
     ·rw[if_pos he] at hv
      simp only[he,decide_false,Bool.not_false,if_true,xz hw,Option.bind_some,jL]
      exact(Dq (v:=vN (cl w).1) (by show eS.size≤_; decide)).trans (aR _ hv)
def Cy (c:UInt8):Bool:=decide (c=32)
def bl (l:ag):ag:=l.dropWhile Cy
def aL (c:UInt8):Bool:=eZ c || dx c || decide (c=36)
theorem Yu:(fun c=>([32]:ag).contains c)=Cy:=funext fun c=>qB (p:=fun c=>([32]:ag).contains c=Cy c) (by decide +kernel) c
theorem Yv:(fun c=>([65,66,67,68,69,70,71,72,73,74,75,76,77,78,79,80,81,82,83,84,85,86,87,88,89,90,48,49,50,51,52,53,54,55,56,57,36]:ag).contains c)=aL:=funext fun c=>qB (p:=fun c=>([65,66,67,68,69,70,71,72,73,74,75,76,77,78,79,80,81,82,83,84,85,86,87,88,89,90,48,49,50,51,52,53,54,55,56,57,36]:ag).contains c=aL c) (by decide +kernel) c
theorem G9 (p:UInt8→Bool) : ∀ l:ag,(l.dropWhile p).dropWhile p=l.dropWhile p
 | []=>rfl
 | c :: l=>by
  cases h:p c with
  | true=>rw[List.dropWhile_cons_of_pos h,G9 p l]
  | false =>
   have h' : ¬p c=true:=by rw[h]; decide
   rw[List.dropWhile_cons_of_neg h',List.dropWhile_cons_of_neg h']
theorem dF (l:ag):bl (bl l)=bl l:=G9 _ _
theorem aw (l:ag):bl l <:+ l:=List.dropWhile_suffix _
theorem aI {a b:ag} (h:a <:+ b):a.length≤b.length:=h.length_le
theorem nD (l:ag) (b:Bool) (ns:List aa):iH (ba l) b ns=some ((),((ba (bl l),ns,b,()),())):=by
 rw[DQ,show(⟨#[32]⟩:ByteArray)=ba [32] from rfl,xx _ _ (by decide +kernel),Yu]
 rfl
def WZ:List ag:=[[60,62],[60,61],[62,61],[60],[62],[61],[38],[43],[45],[42],[47],[40],[41],[44],[58]]
def sg (l:ag):ag:=(WZ.find? fun p=>p.isPrefixOf l).getD []
theorem Ha {l:ag} {b:Bool} {ns:List aa} (hl:l.length≤1000) {X:List ByteArray} (hX:X.length≤100) : ∀(ys:List ag) (pre:List ByteArray),X=pre++ys.map (fun x=>ba x)→l4 (X.length:Int) (pre.length:Int) (ba l) b X ns=some ((ba ((ys.find? fun p=>p.isPrefixOf l).getD []),()),((ba l,ns,b,()),()))
 | [],pre,h=>by
  rw[sU,ax (bw (by simpa using h))]
  rfl
 | y :: ys,pre,h=>by
  have h':X=pre++ba y :: ys.map (fun x=>ba x):=by simpa using h
  have hd:List.getD X (Int.toNat (pre.length:Int)) (⟨#[]⟩:ByteArray)=ba y:=by rw[h']; exact uz
  rw[sU,aF (bH h'),qr h',hd,s5 _ _ (by omega)]
  simp only[Option.bind_some,List.find?_cons]
  cases hy:y.isPrefixOf l with
  | true=>rfl
  | false =>
   simp only[Bool.false_eq_true,if_false]
   rw[aO h' (by omega)]
   exact Ha hl hX ys (pre++[ba y]) (by rw[h']; simp)
theorem M2 {l:ag} {b:Bool} {ns:List aa} (hl:l.length≤1000):qb (ba l) b ns=some ((ba (sg (bl l)),()),((ba (bl l),ns,b,()),())):=by
 rw[GJ,nD]
 simp only[Option.bind_some]
 have:=aI (aw l)
 exact Ha (by omega) (by decide) WZ [] rfl
theorem M3 (l:ag):(sg l).isPrefixOf l=true:=by
 unfold sg
 cases h:WZ.find? fun p=>p.isPrefixOf l with
 | none=>simp
 | some p =>
  have:=List.find?_some h
  simpa using this
theorem Dr {p l:ag} (h:p.isPrefixOf l=true):p.length≤l.length:=(List.isPrefixOf_iff_prefix.1 h).length_le
theorem cY {l w:ag} {b:Bool} {ns:List aa} (hl:l.length≤1000):bi (ba w) (ba l) b ns=some ((decide (sg (bl l)=w),()),((ba (if sg (bl l)=w then(bl l).drop w.length else bl l),ns,b,()),())):=by
 rw[GK,M2 hl]
 simp only[Option.bind_some,dL]
 by_cases h:sg (bl l)=w
 ·have:=Dr (M3 (bl l))
  rw[h] at this
  simp only[h,decide_true,Bool.not_true,Bool.false_eq_true,if_false,if_true,ay]
  rw[fR this]
 ·simp[h]
def gO (y:UInt8) (a b:Bool):Int:=if y=60 then(if a=true then 7 else if b=true then 9 else 8) else if y=62 then(if b=true then 11 else 10) else if y=61 then 6 else if y=38 then 5 else if y=43 then 1 else if y=45 then 2 else if y=42 then 3 else if y=47 then 4 else 0
def gS (y:UInt8) (a b:Bool):ag:=if y=60 then(if a=true then [60,62] else if b=true then [60,61] else [60]) else if y=62 then(if b=true then [62,61] else [62]) else if y=61 then [61] else if y=38 then [38] else if y=43 then [43] else if y=45 then [45] else if y=42 then [42] else if y=47 then [47] else if y=40 then [40] else if y=41 then [41] else if y=44 then [44] else if y=58 then [58] else []
def ez (l:ag):Int:=match l with
 | []=>0
 | y :: t=>gO y (decide (t.head? = some 62)) (decide (t.head? = some 61))
def du (k:Int):ag:=([[],[43],[45],[42],[47],[38],[61],[60,62],[60],[60,61],[62],[62,61]]:List ag).getD k.toNat []
theorem Io (y:UInt8) (t:ag):sg (y :: t)=gS y (decide (t.head? = some 62)) (decide (t.head? = some 61)):=by
 unfold sg WZ
 simp only[List.find?_cons,List.find?_nil,gW,Fl]
 generalize decide (t.head? = some 62)=a
 generalize decide (t.head? = some 61)=b
 have : ∀ a b:Bool,(Option.getD (match decide (y=60) && a with | true=>some [60,62] | false=>match decide (y=60) && b with | true=>some [60,61] | false=>match decide (y=62) && b with | true=>some [62,61] | false=>match decide (y=60) with | true=>some [60] | false=>match decide (y=62) with | true=>some [62] | false=>match decide (y=61) with | true=>some [61] | false=>match decide (y=38) with | true=>some [38] | false=>match decide (y=43) with | true=>some [43] | false=>match decide (y=45) with | true=>some [45] | false=>match decide (y=42) with | true=>some [42] | false=>match decide (y=47) with | true=>some [47] | false=>match decide (y=40) with | true=>some [40] | false=>match decide (y=41) with | true=>some [41] | false=>match decide (y=44) with | true=>some [44] | false=>match decide (y=58) with | true=>some [58] | false=>none) []:ag)=gS y a b :=
  qB (p:=fun y => ∀ a b:Bool,(Option.getD (match decide (y=60) && a with | true=>some [60,62] | false=>match decide (y=60) && b with | true=>some [60,61] | false=>match decide (y=62) && b with | true=>some [62,61] | false=>match decide (y=60) with | true=>some [60] | false=>match decide (y=62) with | true=>some [62] | false=>match decide (y=61) with | true=>some [61] | false=>match decide (y=38) with | true=>some [38] | false=>match decide (y=43) with | true=>some [43] | false=>match decide (y=45) with | true=>some [45] | false=>match decide (y=42) with | true=>some [42] | false=>match decide (y=47) with | true=>some [47] | false=>match decide (y=40) with | true=>some [40] | false=>match decide (y=41) with | true=>some [41] | false=>match decide (y=44) with | true=>some [44] | false=>match decide (y=58) with | true=>some [58] | false=>none) []:ag)=gS y a b) (by decide +kernel) y
 exact this a b
theorem ig {c:UInt8} (hc:c=45∨c=40∨c=41∨c=44∨c=58) (l:ag):(sg l=[c])=(l.head? = some c):=by
 apply propext
 constructor
 ·intro h
  have:=M3 l
  rw[h,Fk] at this
  exact of_decide_eq_true this
 ·intro h
  cases l with
  | nil=>cases h
  | cons y t =>
   simp only[List.head?_cons,Option.some.injEq] at h
   subst h
   rw[Io]
   rcases hc with rfl | rfl | rfl | rfl | rfl <;> rfl
def Yw (s:ag):Int:=if du 11=s then 11 else if du 10=s then 10 else if du 9=s then 9 else if du 8=s then 8 else if du 7=s then 7 else if du 6=s then 6 else if du 5=s then 5 else if du 4=s then 4 else if du 3=s then 3 else if du 2=s then 2 else if du 1=s then 1 else 0
theorem M4 (y:UInt8) : ∀ a b:Bool,Yw (gS y a b)=gO y a b∧(gO y a b≠0→gS y a b=du (gO y a b))∧0≤gO y a b∧gO y a b≤11 :=
 qB (p:=fun y => ∀ a b:Bool,Yw (gS y a b)=gO y a b∧(gO y a b≠0→gS y a b=du (gO y a b))∧0≤gO y a b∧gO y a b≤11) (by decide +kernel) y
theorem Yx (l:ag):Yw (sg l)=ez l:=by
 cases l with
 | nil=>decide
 | cons y t =>
  rw[Io]
  exact(M4 y _ _).1
theorem ry {l:ag} (h:ez l≠0):sg l=du (ez l):=by
 cases l with
 | nil=>exact absurd rfl h
 | cons y t =>
  rw[Io]
  exact(M4 y _ _).2.1 h
theorem mP (l:ag):0≤ez l∧ez l≤11:=by
 cases l with
 | nil=>decide
 | cons y t=>exact(M4 y _ _).2.2
theorem Ay {k:Int} (h0:0≤k) (h1:k≤11):ym k=some ((ba (du k),()),()):=by
 rw[Q5,bD h0 (by show k < 12; omega)]
 have : ∀ k:Fin 12,List.getD ([(⟨#[]⟩:ByteArray),(⟨#[43]⟩:ByteArray),(⟨#[45]⟩:ByteArray),(⟨#[42]⟩:ByteArray),(⟨#[47]⟩:ByteArray),(⟨#[38]⟩:ByteArray),(⟨#[61]⟩:ByteArray),(⟨#[60,62]⟩:ByteArray),(⟨#[60]⟩:ByteArray),(⟨#[60,61]⟩:ByteArray),(⟨#[62]⟩:ByteArray),(⟨#[62,61]⟩:ByteArray)]:(List ByteArray)) k.val (⟨#[]⟩:ByteArray)=ba (du (k.val:Int)):=by decide +kernel
 have h:=this ⟨k.toNat,by omega⟩
 simp only[Int.toNat_of_nonneg h0] at h
 rw[h]
theorem uo {k:Int} (h0:0≤k) (h1:k≤11):lI k=some ((ba (du k),()),()):=by
 rw[QT,bD h0 (by show k < 12; omega)]
 have : ∀ k:Fin 12,List.getD ([(⟨#[]⟩:ByteArray),(⟨#[43]⟩:ByteArray),(⟨#[45]⟩:ByteArray),(⟨#[42]⟩:ByteArray),(⟨#[47]⟩:ByteArray),(⟨#[38]⟩:ByteArray),(⟨#[61]⟩:ByteArray),(⟨#[60,62]⟩:ByteArray),(⟨#[60]⟩:ByteArray),(⟨#[60,61]⟩:ByteArray),(⟨#[62]⟩:ByteArray),(⟨#[62,61]⟩:ByteArray)]:(List ByteArray)) k.val (⟨#[]⟩:ByteArray)=ba (du (k.val:Int)):=by decide +kernel
 have h:=this ⟨k.toNat,by omega⟩
 simp only[Int.toNat_of_nonneg h0] at h
 rw[h]
theorem JW {least deep left op k:Int} {l:ag} {b:Bool} {ns:List aa} (hl:l.length≤1000) (h0:0≤k) (h1:k≤11) :
  cx least deep left op k (ba l) b ns=cx least deep left (if du k=sg (bl l) then k else op) (k+1) (ba (bl l)) b ns:=by
 rw[qx,aF h1,M2 hl]
 simp only[Option.bind_some]
 rw[Ay h0 h1]
 simp only[Option.bind_some,dL,decide_eq_true_eq]
 rw[wr (by omega) (by omega)]
 by_cases h:sg (bl l)=du k
 ·rw[if_pos h,if_pos h.symm]
 ·rw[if_neg h,if_neg (Ne.symm h)]
theorem vG {least deep left:Int} {l:ag} {b:Bool} {ns:List aa} (hl:l.length≤1000) :
  cx least deep left 0 1 (ba l) b ns=cx least deep left (ez (bl l)) 12 (ba (bl l)) b ns:=by
 have:=aI (aw l)
 have st : ∀(op k:Int),0≤k→k≤11→cx least deep left op k (ba (bl l)) b ns=cx least deep left (if du k=sg (bl l) then k else op) (k+1) (ba (bl l)) b ns:=by
  intro op k h0 h1
  rw[JW (by omega) h0 h1,dF]
 rw[JW hl (by decide) (by decide),st _ (1+1) (by decide) (by decide),st _ (1+1+1) (by decide) (by decide),st _ (1+1+1+1) (by decide) (by decide),st _ (1+1+1+1+1) (by decide) (by decide),st _ (1+1+1+1+1+1) (by decide) (by decide),
  st _ (1+1+1+1+1+1+1) (by decide) (by decide),st _ (1+1+1+1+1+1+1+1) (by decide) (by decide),st _ (1+1+1+1+1+1+1+1+1) (by decide) (by decide),st _ (1+1+1+1+1+1+1+1+1+1) (by decide) (by decide),st _ (1+1+1+1+1+1+1+1+1+1+1) (by decide) (by decide)]
 rw[←Yx (bl l)]
 rfl
def bT (s l:ag):Int:=(s.length:Int) - (l.length:Int)
theorem o0 {s l:ag} (h:l <:+ s) : ∃ pre,s=pre++l∧bT s l=(pre.length:Int):=by
 obtain⟨pre,h⟩:=h
 refine⟨pre,h.symm,?_⟩
 unfold bT
 rw[←h,List.length_append]
 omega
theorem Hb {s:ag} {b:Bool} {ns:List aa} (hs:s.length≤1000) : ∀(l:ag),l <:+ s→lZ (ba s) (bT s l) b ns=some ((),((ba s,bT s (bl l),b,ns,()),()))
 | [],h=>by
  rw[sT,ax (by rw[ay]; unfold bT; simp)]
  rfl
 | c :: l,h=>by
  obtain⟨pre,h1,h2⟩:=o0 h
  have hl:pre.length < s.length:=by rw[h1]; simp
  rw[sT,h2,aF (by rw[ay]; omega),ly h1]
  by_cases hc:c=32
  ·subst hc
   have hl':l <:+ s:=List.IsSuffix.trans (List.suffix_cons _ _) h
   rw[if_pos (by rfl),wr (by omega) (by omega)]
   have e:(pre.length:Int)+1=bT s l:=by
    rw[←h2]
    unfold bT
    rw[List.length_cons]
    omega
   rw[e,Hb hs l hl']
   rfl
  ·have h0' : ¬((c.toNat:Int) == 32)=true:=by
    simp only[beq_iff_eq]
    intro e
    apply hc
    apply UInt8.toNat_inj.1
    show c.toNat=32
    omega
   rw[if_neg h0',←h2]
   have:bl (c :: l)=c :: l:=List.dropWhile_cons_of_neg (by simp[Cy,hc])
   rw[this]
theorem M5 {s l:ag} {b:Bool} {ns:List aa} (hs:s.length≤1000) (h:l <:+ s):ku (ba s) (bT s l) b ns=some ((),((ba s,bT s (bl l),b,ns,()),())):=by
 rw[GH]
 exact Hb hs l h
theorem ak {a b c:ag} (h:a <:+ b) (k:b <:+ c):a <:+ c:=List.IsSuffix.trans h k
theorem gu (n:Nat) (l:ag):l.drop n <:+ l:=List.drop_suffix n l
theorem je {s l w:ag} {b:Bool} {ns:List aa} (hs:s.length≤1000) (hw:w.length≤1000) (h:l <:+ s) :
  ej (ba w) (ba s) (bT s l) b ns=some (((!b && w.isPrefixOf (bl l)),()),((ba s,bT s (if(!b && w.isPrefixOf (bl l))=true then(bl l).drop w.length else bl l),b,ns,()),())):=by
 have hb:=ak (aw l) h
 rw[Oh,M5 hs h]
 simp only[Option.bind_some]
 cases b with
 | true=>rfl
 | false =>
  simp only[Bool.false_eq_true,if_false,Bool.not_false,Bool.true_and,ay]
  generalize bl l=m at hb
  obtain⟨pre,h1,h2⟩:=o0 hb
  have hl:pre.length+m.length=s.length:=by rw[h1]; simp
  rw[h2,wr (by omega) (by omega)]
  by_cases hm:w.length≤m.length
  ·rw[ax (by omega),show(pre.length:Int)+(w.length:Int)=((pre.length+w.length:Nat):Int) by omega,yV (by omega) (by omega),dL]
   have e:(s.take (pre.length+w.length)).drop pre.length=m.take w.length:=by
    rw[h1,List.take_append,List.drop_append]
    simp
   rw[e]
   have e2:decide (m.take w.length=w)=w.isPrefixOf m:=by
    rw[Bool.eq_iff_iff,decide_eq_true_eq,List.isPrefixOf_iff_prefix,List.prefix_iff_eq_take]
    exact eq_comm
   rw[e2]
   cases w.isPrefixOf m with
   | true =>
    simp only[Bool.not_true,Bool.false_eq_true,if_false,if_true]
    have e5:((pre.length+w.length:Nat):Int)=bT s (m.drop w.length):=by
     unfold bT
     rw[List.length_drop]
     omega
    rw[e5]
   | false =>
    simp only[Bool.not_false,if_true,Bool.false_eq_true,if_false]
    rw[h2]
  ·rw[aF (by omega)]
   have e2:w.isPrefixOf m=false:=by
    rw[Bool.eq_false_iff]
    intro hp
    exact hm (Dr hp)
   rw[e2]
   simp only[Bool.false_eq_true,if_false]
   rw[h2]
theorem Az {l:ag} {b:Bool} {ns:List aa} (hl:l.length≤1000):kw (ba l) b ns=some ((ba ((bl l).takeWhile aL),()),((ba ((bl l).dropWhile aL),ns,b,()),())):=by
 have:=aI (aw l)
 obtain⟨d1,d2,d3⟩:=Co aL (bl l)
 rw[GL,nD]
 simp only[Option.bind_some]
 rw[xx _ _ (by decide +kernel),Yv]
 simp only[Option.bind_some,ay]
 rw[wr (by omega) (by omega),show((bl l).length:Int) - (((bl l).dropWhile aL).length:Int)=(((bl l).length - ((bl l).dropWhile aL).length:Nat):Int) by omega,G3 (by omega),fR (by omega),d1,d2]
theorem JX {s pre l:ag} {w:Nat} {b:Bool} {ns:List aa} (h:s=pre++l) (hw:w≤pre.length) :
  (wb (ba s) (w:Int) (pre.length:Int) fun y6=>(some ((y6,()),((ba s,(pre.length:Int),b,ns,()),()))))=(some ((ba (pre.drop w),()),((ba s,bT s l,b,ns,()),())):Option ((ByteArray×Unit)×(lD×Unit))):=by
 have hl:pre.length+l.length=s.length:=by rw[h]; simp
 rw[yV hw (by omega)]
 congr 3
 ·congr 1
  rw[h,List.take_left' rfl]
 ·unfold bT
  congr 3
  omega
theorem Hc {s:ag} {b:Bool} {ns:List aa} (hs:s.length≤1000) {w:Nat} : ∀(l pre:ag),s=pre++l→w≤pre.length→ew (w:Int) (ba s) (pre.length:Int) b ns=some ((ba (pre.drop w++l.takeWhile aL),()),((ba s,bT s (l.dropWhile aL),b,ns,()),()))
 | [],pre,h,hw=>by
  have hl:pre.length=s.length:=by rw[h]; simp
  rw[vk,ax (by rw[ay]; omega)]
  simpa using JX (b:=b) (ns:=ns) h hw
 | y :: l,pre,h,hw=>by
  have hl:pre.length < s.length:=by rw[h]; simp
  have ih:=Hc (b:=b) (ns:=ns) hs (w:=w) l (pre++[y]) (by rw[h]; simp) (by rw[List.length_append]; omega)
  rw[show((pre++[y]).length:Int)=(pre.length:Int)+1 by simp,List.drop_append_of_le_length hw] at ih
  have he:=JX (b:=b) (ns:=ns) h hw
  rw[vk,aF (by rw[ay]; omega)]
  simp only[ly h]
  rw[wr (by omega) (by omega)]
  have h36:((y.toNat:Int) == 36)=decide (y=36):=by
   rw[Bool.eq_iff_iff,beq_iff_eq,decide_eq_true_eq]
   constructor
   ·intro e
    apply UInt8.toNat_inj.1
    show y.toNat=36
    omega
   ·rintro rfl
    rfl
  rw[h36]
  cases hy:aL y with
  | true =>
   have e1:(y :: l).takeWhile aL=y :: l.takeWhile aL:=List.takeWhile_cons_of_pos hy
   have e2:(y :: l).dropWhile aL=l.dropWhile aL:=List.dropWhile_cons_of_pos hy
   rw[e1,e2]
   have e3:pre.drop w++y :: l.takeWhile aL=pre.drop w++[y]++l.takeWhile aL:=by simp
   rw[e3,←ih]
   simp only[aL,eZ,dx,Bool.or_eq_true,Bool.and_eq_true,decide_eq_true_eq] at hy
   by_cases c1:65≤y.toNat
   ·rw[aF (by omega)]
    by_cases c2:y.toNat≤90
    ·rw[aF (by omega)]
    ·rw[ax (by omega),aF (by omega),ax (by omega)]
     exfalso
     rcases hy with(hy | hy) | rfl
     ·omega
     ·omega
     ·exact absurd c1 (by decide)
   ·rw[ax (by omega)]
    by_cases c3:48≤y.toNat
    ·rw[aF (by omega)]
     by_cases c4:y.toNat≤57
     ·rw[aF (by omega)]
     ·rw[ax (by omega)]
      exfalso
      rcases hy with(hy | hy) | rfl
      ·omega
      ·omega
      ·exact absurd c3 (by decide)
    ·rw[ax (by omega)]
     have:y=36:=by
      rcases hy with(hy | hy) | hy
      ·omega
      ·omega
      ·exact hy
     rw[aF this]
  | false =>
   have e1:(y :: l).takeWhile aL=[]:=List.takeWhile_cons_of_neg (by rw[hy]; decide)
   have e2:(y :: l).dropWhile aL=y :: l:=List.dropWhile_cons_of_neg (by rw[hy]; decide)
   rw[e1,e2,List.append_nil,←he]
   simp only[aL,eZ,dx,Bool.or_eq_false_iff,Bool.and_eq_false_iff,decide_eq_false_iff_not] at hy
   obtain⟨⟨k1,k2⟩,k3⟩:=hy
   by_cases c1:65≤y.toNat
   ·rw[aF (by omega),ax (by omega),aF (by omega),ax (by omega),ax k3]
   ·rw[ax (by omega)]
    by_cases c3:48≤y.toNat
    ·rw[aF (by omega),ax (by omega),ax k3]
    ·rw[ax (by omega),ax k3]
theorem Fu {s l:ag} {b:Bool} {ns:List aa} (hs:s.length≤1000) (h:l <:+ s):ne (ba s) (bT s l) b ns=some ((ba (l.takeWhile aL),()),((ba s,bT s (l.dropWhile aL),b,ns,()),())):=by
 obtain⟨pre,h1,h2⟩:=o0 h
 rw[Kv,h2,Hc hs l pre h1 (Nat.le_refl _)]
 simp
def cn (k:Int):Int:=if k≥6 then 1 else if k=5 then 2 else if k≥3 then 4 else 3
theorem xA (k:Int):u1 k=some ((cn k,()),()):=by
 rw[Om]
 unfold cn
 simp only[decide_eq_true_eq,beq_iff_eq]
 repeat' split
 all_goals first | rfl | omega
theorem JY {k:Int} (h0:1≤k) (h1:k≤11):BZ k=some ((cn k,()),()):=by
 rw[TA]
 unfold cn
 simp only[beq_iff_eq]
 repeat' split
 all_goals first | rfl | omega
abbrev vH:List Int:=[7,9,11,6,8,10,1,2,3,4,5]
def Bc (L:Int) (m:ag) (k:Int):Bool:=decide (cn k=L) && (du k).isPrefixOf m
theorem zf (k:Int):(du k).length≤2:=by
 unfold du
 have : ∀ i:Nat,(([[],[43],[45],[42],[47],[38],[61],[60,62],[60],[60,61],[62],[62,61]]:List ag).getD i []).length≤2:=by
  intro i
  by_cases hi:i < 12
  ·have h : ∀ j:Fin 12,(([[],[43],[45],[42],[47],[38],[61],[60,62],[60],[60,61],[62],[62,61]]:List ag).getD j.val []).length≤2:=by decide
   exact h ⟨i,hi⟩
  ·rw[List.getD_eq_getElem?_getD,List.getElem?_eq_none (by simp; omega)]
   simp
 exact this _
section
variable {s:ag} {ns:List aa} {L:Int}
def AA (s l l':ag) (ns:List aa):Option Int→Option ((Int×Unit)×(lD×Unit))
 | some k=>some ((k,()),((ba s,bT s ((bl l).drop (du k).length),false,ns,()),()))
 | none=>some ((0,()),((ba s,bT s l',false,ns,()),()))
theorem Yy {pre ys:List Int} {k:Int} (h:vH=pre++k :: ys):List.getD vH (Int.toNat (pre.length:Int)) 0=k:=by rw[h]; exact uz
theorem JZ {k:Int} (h:k∈vH):1≤k∧k≤11:=by
 have : ∀ k∈vH,1≤k∧k≤11:=by decide
 exact this k h
theorem Cz (hs:s.length≤1000) : ∀(ys pre:List Int) (l:ag),vH=pre++ys→l <:+ s → ∃ l',(l'=l∨l'=bl l)∧mG L (pre.length:Int) (ba s) (bT s l) false vH ns=AA s l l' ns (ys.find? (Bc L (bl l)))
 | [],pre,l,h,hl=>by
  refine⟨l,.inl rfl,?_⟩
  rw[wU,ax (bw h)]
  rfl
 | k :: ys,pre,l,h,hl=>by
  have hk:=JZ (k:=k) (by rw[h]; simp)
  rw[wU,aF (bH h),qr h,Yy h,xA]
  simp only[Option.bind_some,List.find?_cons,beq_iff_eq]
  by_cases hL:cn k=L
  ·rw[if_pos hL,qr h,uo (by omega) (by omega)]
   simp only[Option.bind_some]
   have:=zf k
   rw[je hs (by omega) hl]
   simp only[Option.bind_some,Bool.not_false,Bool.true_and]
   cases hp:(du k).isPrefixOf (bl l) with
   | true =>
    simp only[if_true,Bc,hL,decide_true,Bool.true_and,hp]
    rw[qr h]
    exact⟨l,.inl rfl,rfl⟩
   | false =>
    simp only[Bool.false_eq_true,if_false,Bc,hL,decide_true,Bool.true_and,hp]
    rw[aO h (by decide)]
    obtain⟨l',h1,h2⟩:=Cz hs ys (pre++[k]) (bl l) (av h) (ak (aw l) hl)
    rw[dF] at h1 h2
    refine⟨l',.inr (by simpa using h1),?_⟩
    rw[h2]
    unfold AA
    rw[dF]
  ·rw[if_neg hL,aO h (by decide)]
   obtain⟨l',h1,h2⟩:=Cz hs ys (pre++[k]) l (av h) hl
   refine⟨l',h1,?_⟩
   rw[h2]
   simp[Bc,hL]
theorem M6 (hs:s.length≤1000) : ∀(ys pre:List Int) (l:ag),vH=pre++ys→l <:+ s → ∃ l',(l'=l∨l'=bl l)∧sc L (pre.length:Int) (ba s) (bT s l) false ns vH=AA s l l' ns (ys.find? (Bc L (bl l)))
 | [],pre,l,h,hl=>by
  refine⟨l,.inl rfl,?_⟩
  rw[yG,ax (bw h)]
  rfl
 | k :: ys,pre,l,h,hl=>by
  have hk:=JZ (k:=k) (by rw[h]; simp)
  rw[yG,aF (bH h),qr h,Yy h,xA]
  simp only[Option.bind_some,List.find?_cons,beq_iff_eq]
  by_cases hL:cn k=L
  ·rw[if_pos hL,qr h,uo (by omega) (by omega)]
   simp only[Option.bind_some]
   have:=zf k
   rw[je hs (by omega) hl]
   simp only[Option.bind_some,Bool.not_false,Bool.true_and]
   cases hp:(du k).isPrefixOf (bl l) with
   | true =>
    simp only[if_true,Bc,hL,decide_true,Bool.true_and,hp]
    rw[qr h]
    exact⟨l,.inl rfl,rfl⟩
   | false =>
    simp only[Bool.false_eq_true,if_false,Bc,hL,decide_true,Bool.true_and,hp]
    rw[aO h (by decide)]
    obtain⟨l',h1,h2⟩:=Cz (L:=L) (ns:=ns) hs ys (pre++[k]) (bl l) (av h) (ak (aw l) hl)
    rw[dF] at h1 h2
    refine⟨l',.inr (by simpa using h1),?_⟩
    rw[h2]
    unfold AA
    rw[dF]
  ·rw[if_neg hL,aO h (by decide)]
   obtain⟨l',h1,h2⟩:=M6 hs ys (pre++[k]) l (av h) hl
   refine⟨l',h1,?_⟩
   rw[h2]
   simp[Bc,hL]
end
theorem Hd {α:Type} {p q:α→Bool} : ∀ {l:List α},(∀ x∈l,p x=q x)→l.find? p=l.find? q
 | [],_=>rfl
 | x :: l,h=>by
  rw[List.find?_cons,List.find?_cons,h x (by simp),Hd (fun y hy=>h y (List.mem_cons_of_mem _ hy))]
def pS (k:Int) (y:UInt8) (a b:Bool):Bool:=if k=7 then decide (y=60) && a else if k=9 then decide (y=60) && b else if k=11 then decide (y=62) && b else if k=6 then decide (y=61) else if k=8 then decide (y=60) else if k=10 then decide (y=62) else if k=1 then decide (y=43) else if k=2 then decide (y=45) else if k=3 then decide (y=42) else if k=4 then decide (y=47) else decide (y=38)
theorem Y6 (y:UInt8) (t:ag) : ∀ k∈vH,(du k).isPrefixOf (y :: t)=pS k y (decide (t.head? = some 62)) (decide (t.head? = some 61)):=by
 intro k hk
 have:k=7∨k=9∨k=11∨k=6∨k=8∨k=10∨k=1∨k=2∨k=3∨k=4∨k=5:=by simpa using hk
 rcases this with rfl | rfl | rfl | rfl | rfl | rfl | rfl | rfl | rfl | rfl | rfl
 ·exact Fl y t 60 62
 ·exact Fl y t 60 61
 ·exact Fl y t 62 61
 ·exact gW y t 61
 ·exact gW y t 60
 ·exact gW y t 62
 ·exact gW y t 43
 ·exact gW y t 45
 ·exact gW y t 42
 ·exact gW y t 47
 ·exact gW y t 38
def fS (L:Int) (y:UInt8) (a b:Bool):Prop:=vH.find? (fun k=>decide (cn k=L) && pS k y a b)=if gO y a b≠0∧cn (gO y a b)=L then some (gO y a b) else none
instance (L:Int) (y:UInt8) (a b:Bool):Decidable (fS L y a b):=by unfold fS; infer_instance
theorem Yz (y:UInt8) : ∀ a b:Bool,fS 1 y a b∧fS 2 y a b∧fS 3 y a b∧fS 4 y a b :=
 qB (p:=fun y => ∀ a b:Bool,fS 1 y a b∧fS 2 y a b∧fS 3 y a b∧fS 4 y a b) (by decide +kernel) y
theorem V2 {L:Int} (hL:L=1∨L=2∨L=3∨L=4) (m:ag):vH.find? (Bc L m)=if ez m≠0∧cn (ez m)=L then some (ez m) else none:=by
 cases m with
 | nil =>
  have : ∀ k∈vH,(du k).isPrefixOf ([]:ag)=false:=by decide
  have h0:ez ([]:ag)=0:=rfl
  rw[h0,if_neg (by simp),List.find?_eq_none]
  intro k hk
  unfold Bc
  rw[this k hk,Bool.and_false]
  decide
 | cons y t =>
  have e:vH.find? (Bc L (y :: t))=vH.find? (fun k=>decide (cn k=L) && pS k y (decide (t.head? = some 62)) (decide (t.head? = some 61))):=Hd fun k hk=>by
   unfold Bc
   rw[Y6 y t k hk]
  rw[e]
  obtain⟨h1,h2,h3,h4⟩:=Yz y (decide (t.head? = some 62)) (decide (t.head? = some 61))
  rcases hL with rfl | rfl | rfl | rfl
  ·exact h1
  ·exact h2
  ·exact h3
  ·exact h4
theorem YA {s l:ag} {ns:List aa} {L:Int} (hs:s.length≤1000) (hL:L=1∨L=2∨L=3∨L=4) (h:l <:+ s) :
  ∃ l',(l'=l∨l'=bl l)∧E0 L (ba s) (bT s l) false ns=AA s l l' ns (if ez (bl l)≠0∧cn (ez (bl l))=L then some (ez (bl l)) else none):=by
 rw[Oo,←V2 hL]
 exact M6 hs vH [] l rfl h
theorem zg {x:aa} {l:ag} {b:Bool} {ns:List aa} (hn:ns.length≤60) :
  ∃ i,aG x (ba l) b ns=some ((i,()),((ba l,(if b=false∧ns.length < 60 then ns++[x] else ns),(b || decide (60≤ns.length)),()),()))∧(b=false→ns.length < 60→i=(ns.length:Int)):=by
 rw[H6]
 cases b with
 | true=>exact⟨_,rfl,fun h=>by cases h⟩
 | false =>
  simp only[Bool.false_eq_true,if_false,true_and,Bool.false_or]
  by_cases h:ns.length < 60
  ·have e1:decide ((ns.length:Int)≥60)=false:=decide_eq_false (by omega)
   have e2:decide (60≤ns.length)=false:=decide_eq_false (by omega)
   rw[e1,e2,if_pos h]
   simp only[Bool.not_false,if_true]
   have hl:(ns++[x]).length=ns.length+1:=by simp
   rw[bp (by simp only[List.length_singleton]; omega),wr (by omega) (by omega)]
   exact⟨_,rfl,fun _ _=>by omega⟩
  ·have e1:decide ((ns.length:Int)≥60)=true:=decide_eq_true (by omega)
   have e2:decide (60≤ns.length)=true:=decide_eq_true (by omega)
   rw[e1,e2,if_neg h]
   exact⟨_,rfl,fun _ h'=>absurd h' h⟩
theorem Ip {x:aa} {s:ag} {a:Int} {b:Bool} {ns:List aa} (hn:ns.length≤1000) (hx:x.2.2.1.2.2.1.size≤9223372036854775807) :
  ce x (ba s) a b ns=some (((ns.length:Int),()),((ba s,a,(b || decide (60≤ns.length) || !df x),ns++[x],()),())):=by
 rw[Mg,bp (by simp only[List.length_singleton]; omega)]
 have e:IntKind.i64.wrap (((ns++[x]).length:Int) - 1)=(ns.length:Int):=by
  rw[List.length_append,List.length_singleton,wr (by omega) (by omega)]
  omega
 rw[e,Ck hx]
 simp only[Option.bind_some]
 by_cases h:60≤ns.length
 ·rw[aF (by rw[List.length_append,List.length_singleton]; omega)]
  simp[h]
 ·rw[ax (by rw[List.length_append,List.length_singleton]; omega)]
  cases df x <;> simp[h]
end Go.Proofs.YtnodjiikdgmeaaaGreatDoor.Abs
