/- Plain laws: which cells are touched, on both sides. -/
import Derived.Test.YtnodjiikdgmeaaaGreatDoorZM10
import Derived.Test.YtnodjiikdgmeaaaGreatDoorZM9
set_option linter.unusedVariables false
set_option linter.unusedSimpArgs false
set_option linter.unusedSectionVars false
namespace Go.Proofs.YtnodjiikdgmeaaaGreatDoor.Abs
open Go
noncomputable def gt (s:List aj) (refs:List al) (i:Nat):Bool:=decide (aC s i∈refs) || refs.any fun r=>(mw s i).any fun a=>dI a r
inductive Bz (s:List aj) (refs:List al):Nat→Prop
 | base {i:Nat} (h:gt s refs i=true):Bz s refs i
 | step {i k:Nat} (h:k∈bB s i) (t:Bz s refs k):Bz s refs i
open Classical in
noncomputable def b7 (s:List aj) (refs:List al) (i:Nat):Bool:=decide (Bz s refs i)
open Classical in
theorem L0 {s:List aj} {refs:List al} {i:Nat}:b7 s refs i=true↔Bz s refs i:=by
 unfold b7
 exact⟨fun h=>of_decide_eq_true h,fun h=>decide_eq_true h⟩
theorem Ua {refs:List al} {ar:List aJ} (hl:refs.length≤1000000000) (ha:ar.length≤1000000000):bn refs (refs.length:Int) 0 ar=some ((r5 (fun r=>ar.any fun a=>dI a r) refs 0,()),(ar,())):=by
 have:=zo (s:=refs) (d:=ao.dflt) (p:=fun r=>ar.any fun a=>dI a r) (P:=fun j=>bn refs (refs.length:Int) j ar) (F:=fun j=>some ((j,()),(ar,()))) (by omega) (fun j=>by
  rw[ee]
  simp only[zZ,LP _ ha,Option.bind_some]) refs [] rfl
 exact this
theorem Vn {refs:List al} {ar:List aJ} (hl:refs.length≤1000000000) (ha:ar.length≤1000000000):ce refs ar=some ((refs.any fun r=>ar.any fun a=>dI a r,()),(ar,())):=by
 have e:cZ refs (refs.length:Int) 0 ar=bn refs (refs.length:Int) 0 ar:=by
  rw[jd,ee]
 rw[jc,jV,e,Ua hl ha]
 simp only[Option.bind_some,ux]
theorem L1 {ln:List Nat} {out:List Bool} (hl:ln.length≤1000000000) (ho : ∀ k∈ln,k < out.length) : ∀(ys pre:List Nat),ln=pre++ys→aZ (ln.map fun k:Nat=>(k:Int)) (ln.length:Int) (pre.length:Int) out=some ((r5 (fun k=>out.getD k false) ys pre.length,()),(out,()))
 | [],pre,h=>by
  rw[cf,aw (bi h)]
  rfl
 | y :: ys,pre,h=>by
  have ih:=L1 hl ho ys (pre++[y]) (av h)
  have hg:(ln.map fun k:Nat=>(k:Int))[pre.length]? = some (y:Int):=by
   rw[h]
   simp
  have hy:=ho y (by rw[h]; simp)
  rw[cf,az (bq h),jB hg,Aa,bu (nn _) (by omega),Option.bind_some,aL h (by omega),ih]
  rw[show r5 (fun k=>out.getD k false) (y :: ys) pre.length=if out.getD y false=true then(pre.length:Int) else r5 (fun k=>out.getD k false) ys (pre.length+1) from rfl]
  dsimp only
  rw[Int.toNat_natCast,List.length_append,List.length_singleton]
  by_cases e:out.getD y false=true
  ·rw[if_pos e,if_pos e]
  ·rw[if_neg e,if_neg e]
theorem Vo {ln:List Nat} {out:List Bool} (hl:ln.length≤1000000000) (ho : ∀ k∈ln,k < out.length):cB (ln.map fun k:Nat=>(k:Int)) out=some ((ln.any fun k=>out.getD k false,()),(out,())):=by
 have e:cC (ln.map fun k:Nat=>(k:Int)) (ln.length:Int) 0 out=aZ (ln.map fun k:Nat=>(k:Int)) (ln.length:Int) 0 out:=by
  rw[gJ,cf]
 have e2:=L1 hl ho ln [] rfl
 have e2:aZ (ln.map fun k:Nat=>(k:Int)) (ln.length:Int) 0 out=some ((r5 (fun k=>out.getD k false) ln 0,()),(out,())):=e2
 rw[gI,ie,List.length_map,e,e2]
 simp only[Option.bind_some,ux]
section
variable {s:List aj} (hs:bQ s=true) {refs:List al} (hr:refs.length≤120)
include hs
structure Qa (s:List aj) (refs:List al) (out:List Bool):Prop where
 len:out.length=s.length
 snd : ∀ k,k < s.length→out.getD k false=true→Bz s refs k
 bas : ∀ k,k < s.length→gt s refs k=true→out.getD k false=true
theorem Qb {out:List Bool} (hI:Qa s refs out) (hc : ∀ k,k < s.length→out.getD k false=false → ∀ l∈bB s k,out.getD l false=false):out=(List.range s.length).map (b7 s refs):=by
 have key : ∀ k,Bz s refs k→k < s.length→out.getD k false=true:=by
  intro k h
  induction h with
  | base h=>exact fun hk=>hI.bas _ hk h
  | step h t ih =>
   intro hk
   cases e:out.getD _ false with
   | true=>rfl
   | false =>
    have:=hc _ hk e _ h
    rw[ih (hO h)] at this
    cases this
 apply List.ext_getElem
 ·rw[hI.len,List.length_map,List.length_range]
 ·intro k h1 h2
  have hk:k < s.length:=by rw[←hI.len]; exact h1
  have e:out.getD k false=out[k]:=by
   rw[List.getD_eq_getElem?_getD,List.getElem?_eq_getElem h1]
   rfl
  rw[List.getElem_map,List.getElem_range,←e,Bool.eq_iff_iff,L0]
  exact⟨hI.snd k hk,fun h=>key k h hk⟩
theorem F0 {m:Nat} (IH : ∀ out,Qa s refs out→out.count false < m→e8 true s (gF s) (gL s) out=some (((List.range s.length).map (b7 s refs),()),())) : ∀(j i:Nat) (more:Bool) (out:List Bool),i+j=s.length→Qa s refs out→out.count false≤m→(more=true→out.count false < m)→(more=false → ∀ k,k < i→out.getD k false=false → ∀ l∈bB s k,out.getD l false=false) →
  eK more (gL s) (s.length:Int) (i:Int) s (gF s) (gL s) out=some (((List.range s.length).map (b7 s refs),()),())
 | 0,i,more,out,h,hI,h1,h2,h3=>by
  rw[n5,aw (by omega)]
  cases more with
  | true=>exact IH out hI (h2 rfl)
  | false =>
   rw[pu,if_neg (by decide),←Qb hs hI fun k hk=>h3 rfl k (by omega)]
 | j+1,i,more,out,h,hI,h1,h2,h3=>by
  have hn:=bd hs
  have hi:i < s.length:=by omega
  have hil:(bB s i).length≤s.length:=tf s (mw s i)
  have hlen:=hI.len
  rw[n5,az (by omega),jB (Jg hi),bu (nn _) (by omega),Int.toNat_natCast,kR (by omega) (by omega)]
  by_cases ho:out.getD i false=true
  ·rw[ho,if_neg (by decide)]
   refine F0 IH j (i+1) more out (by omega) hI h1 h2 (fun hm k hk hf => ?_)
   by_cases e:k=i
   ·rw[e,ho] at hf
    cases hf
   ·exact h3 hm k (by omega) hf
  ·have ho:out.getD i false=false:=by simpa using ho
   rw[ho,if_pos (by decide),Vo (by omega) (fun k hk=>by rw[hI.len]; exact hO hk),Option.bind_some]
   dsimp only
   by_cases ha:((bB s i).any fun k=>out.getD k false)=true
   ·have hcs:=qx out i (by omega) ho
    rw[if_pos ha,bu (nn _) (by omega)]
    refine F0 IH j (i+1) true (out.set i true) (by omega) ⟨by rw[List.length_set]; exact hI.len,fun k hk hf => ?_,fun k hk hb => ?_⟩ (by omega) (fun _=>by omega) (fun hm=>by cases hm)
    ·rw[lP _ _ _ (by omega)] at hf
     by_cases e:k=i
     ·rw[e]
      obtain⟨l,hl1,hl2⟩:=List.any_eq_true.1 ha
      exact .step hl1 (hI.snd l (hO hl1) hl2)
     ·rw[if_neg e] at hf
      exact hI.snd k hk hf
    ·rw[lP _ _ _ (by omega)]
     split
     ·rfl
     ·exact hI.bas k hk hb
   ·rw[if_neg ha]
    refine F0 IH j (i+1) more out (by omega) hI h1 h2 (fun hm k hk hf l hl => ?_)
    by_cases e:k=i
    ·rw[e] at hl
     rw[Bool.eq_false_iff]
     intro hx
     exact ha (List.any_eq_true.2 ⟨l,hl,hx⟩)
    ·exact h3 hm k (by omega) hf l hl
theorem Sx : ∀(m:Nat) (out:List Bool),Qa s refs out→out.count false < m→e8 true s (gF s) (gL s) out=some (((List.range s.length).map (b7 s refs),()),())
 | 0,out,_,h=>by omega
 | m+1,out,hI,h=>by
  rw[pu,if_pos rfl,V8]
  exact F0 hs (m:=m) (fun o h1 h2=>Sx m o h1 h2) s.length 0 false out (by omega) hI (by omega) (fun hm=>by cases hm) (fun _ k hk=>by omega)
include hr
theorem Sy : ∀(ys pre:List aj) (o:List Bool),s=pre++ys→o.length=ys.length →
  dS refs s (s.length:Int) (pre.length:Int) s (gF s) (gL s) (((List.range pre.length).map (gt s refs))++o)=e8 true s (gF s) (gL s) ((List.range s.length).map (gt s refs))
 | [],pre,o,h,ho=>by
  have e:pre=s:=by rw[h]; simp
  rw[pp,aw (bi h),List.eq_nil_of_length_eq_zero ho,List.append_nil,e]
 | y :: ys,pre,o,h,ho=>by
  have hn:=bd hs
  have hlen:s.length=pre.length+(ys.length+1):=by rw[h]; simp
  cases o with
  | nil=>cases ho
  | cons z o =>
   have hi:pre.length < s.length:=by omega
   have e0:((List.range pre.length).map (gt s refs)).length=pre.length:=by rw[List.length_map,List.length_range]
   have hil:(pre.length:Int) < ((((List.range pre.length).map (gt s refs))++z :: o).length:Int):=by simp only[List.length_append,List.length_cons,List.length_map,List.length_range]; omega
   have hfl:=GW (cP hs pre.length)
   have har:(mw s pre.length).length≤60:=Cg (cP hs pre.length)
   have ih:=Sy ys (pre++[y]) o (av h) (by simpa using ho)
   have e1 : ∀ b,b=gt s refs pre.length→List.set (((List.range pre.length).map (gt s refs))++z :: o) (Int.toNat (pre.length:Int)) b=((List.range (pre++[y]).length).map (gt s refs))++o:=by
    rintro _ rfl
    have:=tA (l:=(List.range pre.length).map (gt s refs)) (r:=o) (y:=z) (z:=gt s refs pre.length)
    rw[e0] at this
    rw[this,List.length_append,List.length_singleton,List.range_succ,List.map_append,List.append_assoc,List.map_singleton]
    rfl
   rw[pp,az (bq h),bk h,jB (P6 hi),Sn hfl,Option.bind_some,Ve (by omega),Option.bind_some]
   dsimp only
   have hb:gt s refs pre.length=(decide (y.1∈refs) || refs.any fun r=>(mw s pre.length).any fun a=>dI a r):=by
    unfold gt
    rw[LS h]
   by_cases c:y.1∈refs
   ·rw[decide_eq_true c,if_pos rfl,bu (nn _) hil,aL h (by omega),e1 true (by rw[hb,decide_eq_true c]; rfl)]
    exact ih
   ·rw[decide_eq_false c,if_neg (by decide)]
    show((ce refs (mw s pre.length)).bind fun z3=>_)=_
    rw[Vn (by omega) (by omega),Option.bind_some,bu (nn _) hil,aL h (by omega)]
    dsimp only
    rw[e1 _ (by rw[hb,decide_eq_false c,Bool.false_or])]
    exact ih
theorem Qc:qe (gr s) refs=some (((List.range s.length).map (b7 s refs),()),()):=by
 have hn:=bd hs
 rw[Ck]
 show(wF (s.length:Int) 1 false fun y1=>(dS refs s (s.length:Int) 0 s (gF s) (gL s) y1))=_
 rw[rt (by omega)]
 have h:=Sy hs hr s [] (List.replicate s.length false) rfl (by simp)
 have h:dS refs s (s.length:Int) 0 s (gF s) (gL s) (List.replicate s.length false)=_:=h
 rw[h]
 have eg : ∀ k,k < s.length→((List.range s.length).map (gt s refs)).getD k false=gt s refs k:=by
  intro k hk
  rw[List.getD_eq_getElem?_getD,List.getElem?_map,List.getElem?_range hk]
  rfl
 refine Sx hs (((List.range s.length).map (gt s refs)).count false+1) _ ⟨by simp,fun k hk hf => ?_,fun k hk hb => ?_⟩ (by omega)
 ·rw[eg k hk] at hf
  exact .base hf
 ·rw[eg k hk]
  exact hb
end
section
variable {s:List aj} (hs:bQ s=true)
include hs
def BA (ar:List aJ) (set:List al):Bool:=ar.any fun a=>set.any fun r=>dI a r
theorem L2 {more:Bool} {i k:Int} {ar:List aJ} {set:List al} (hl:set.length≤1000000) {a:aJ} (h0:0≤k) (ha:ar[k.toNat]? = some a) : ∀(ys pre:List al) (w:Bool),set=pre++ys →
  jv s more i w k (pre.length:Int) set ar=gH s more i (w || ys.any fun r=>dI a r) (IntKind.i64.wrap (k+1)) set ar
 | [],pre,w,h=>by
  rw[sn,aw (bi h),List.any_nil,Bool.or_false]
 | y :: ys,pre,w,h=>by
  have hk:=(List.getElem?_eq_some_iff.1 ha).1
  have hga:List.getD ar k.toNat bp.dflt=a:=by
   rw[List.getD_eq_getElem?_getD,ha]
   rfl
  have hgy:List.getD set (Int.toNat (pre.length:Int)) ao.dflt=y:=by rw[h]; exact lY
  rw[sn,az (bq h),aL h (by omega),L2 hl h0 ha ys _ true (av h),lI h,bu h0 (by omega),hga,hgy,uo,Option.bind_some]
  dsimp only
  rw[L2 hl h0 ha ys _ (dI a y) (av h),List.any_cons]
  cases w with
  | true=>rw[if_pos rfl]; simp only[Bool.true_or]
  | false=>rw[if_neg (by decide)]; simp only[Bool.false_or]
theorem Sz {more:Bool} {i:Nat} (hi:i < s.length) {ar:List aJ} (hal:ar.length≤1000000) {set:List al} (hl:set.length≤1000000) : ∀(ys pre:List aJ) (w:Bool),ar=pre++ys →
  gH s more (i:Int) w (pre.length:Int) set ar=if(w || BA ys set)=true then fe s true ((i+1:Nat):Int) (set++[aC s i]) else fe s more ((i+1:Nat):Int) set
 | [],pre,w,h=>by
  have hn:=bd hs
  have hw:IntKind.i64.wrap ((i:Int)+1)=((i+1:Nat):Int):=kR (by omega) (by omega)
  have e:BA [] set=false:=rfl
  rw[sk,aw (bi h),e,Bool.or_false,jB (oc (d:=ap.dflt) hi),bv (by simp only[List.length_singleton]; omega),hw]
  rfl
 | y :: ys,pre,w,h=>by
  have hga:ar[((pre.length:Nat):Int).toNat]? = some y:=by
   rw[h]
   simp
  have e:BA (y :: ys) set=((set.any fun r=>dI y r) || BA ys set):=rfl
  have h15:=L2 hs (more:=more) (i:=(i:Int)) hl (nn pre.length) hga set [] w rfl
  rw[sk,az (bq h)]
  refine h15.trans ?_
  rw[aL h (by omega),Sz hi hal hl ys _ _ (av h),e,Bool.or_assoc]
variable {refs:List al}
def pE (s:List aj) (set:List al):Nat:=((List.range s.length).filter fun k => !decide (aC s k∈set)).length
omit hs in
theorem Ub {set:List al} {i:Nat} (hi:i < s.length) (h:aC s i ∉ set):pE s (set++[aC s i]) < pE s set:=by
 unfold pE
 refine uI (fun k hk h => ?_) ⟨i,List.mem_range.2 hi,by simpa using h,by simp⟩
 simp only[List.mem_append,List.mem_singleton,Bool.not_eq_true',decide_eq_false_iff_not,not_or] at h ⊢
 exact h.1
omit hs in
theorem Uc (set:List al):pE s set≤s.length:=by
 unfold pE
 have:=List.length_filter_le (fun k => !decide (aC s k∈set)) (List.range s.length)
 rw[List.length_range] at this
 exact this
structure Qd (s:List aj) (refs set:List al):Prop where
 ref : ∀ r∈refs,r∈set
 snd : ∀ r∈set,r∈refs ∨ ∃ k,k < s.length∧aC s k=r∧Bz s refs k
 len:set.length+pE s set≤1000
theorem SA {set:List al} (hI:Qd s refs set) (hc : ∀ k,k < s.length→aC s k ∉ set→BA (mw s k) set=false) : ∀ k,k < s.length→(aC s k∈set↔Bz s refs k):=by
 have hit : ∀ k r,k < s.length→r∈set→((mw s k).any fun a=>dI a r)=true→aC s k∈set:=by
  intro k r hk hr ha
  refine Classical.byContradiction fun hn => ?_
  have h1:=hc k hk hn
  obtain⟨a,h2,h3⟩:=List.any_eq_true.1 ha
  have h4:BA (mw s k) set=true:=List.any_eq_true.2 ⟨a,h2,List.any_eq_true.2 ⟨r,hr,h3⟩⟩
  rw[h4] at h1
  cases h1
 have key : ∀ k,Bz s refs k→k < s.length→aC s k∈set:=by
  intro k h
  induction h with
  | base h =>
   intro hk
   unfold gt at h
   rw[Bool.or_eq_true,decide_eq_true_eq] at h
   rcases h with h | h
   ·exact hI.ref _ h
   ·obtain⟨r,h1,h2⟩:=List.any_eq_true.1 h
    exact hit _ r hk (hI.ref r h1) h2
  | step h t ih=>exact fun hk=>hit _ _ hk (ih (hO h)) (Cf.1 h).2
 intro k hk
 refine⟨fun h => ?_,fun h=>key k h hk⟩
 rcases hI.snd _ h with h | ⟨j,h1,h2,h3⟩
 ·exact .base (by
   unfold gt
   rw[decide_eq_true h]
   rfl)
 ·rw[←Ch (eQ hs) h1 hk h2]
  exact h3
theorem L3 {set:List al} (hl:set.length≤1000000) : ∀(ys pre:List aj) (acc:List al),s=pre++ys→acc.length≤pre.length→gG s (pre.length:Int) set acc=some ((acc++(ys.filter fun c=>decide (c.1∈set)).map (·.1),()),())
 | [],pre,acc,h,ha=>by
  rw[sj,aw (bi h)]
  simp
 | y :: ys,pre,acc,h,ha=>by
  have hn:=bd hs
  have hlen:s.length=pre.length+(ys.length+1):=by rw[h]; simp
  rw[sj,az (bq h)]
  simp only[bk h,rK _ (show set.length≤1000000000 by omega),Option.bind_some]
  rw[aL h (by omega)]
  by_cases e:y.1∈set
  ·rw[decide_eq_true e,if_pos rfl,bv (by simp only[List.length_singleton]; omega),L3 hl ys _ _ (av h) (by simp only[List.length_append,List.length_singleton]; omega),List.filter_cons_of_pos (by simp[e])]
   simp
  ·rw[decide_eq_false e,if_neg (by decide),L3 hl ys _ _ (av h) (by simp only[List.length_append,List.length_singleton]; omega),List.filter_cons_of_neg (by simp[e])]
theorem Wa {set:List al} (hl:set.length≤1000000) (h : ∀ k,k < s.length→(aC s k∈set↔Bz s refs k)):gG s 0 set []=some ((((List.range s.length).filter (b7 s refs)).map (aC s),()),()):=by
 have h0:=L3 hs hl s [] [] rfl (Nat.le_refl _)
 have key : ∀ t:List aj,(List.range s.length).map (fun i=>s.getD i ap.dflt)=t→(t.filter fun c=>decide (c.1∈set)).map (·.1)=((List.range s.length).filter fun k=>decide (aC s k∈set)).map (aC s):=by
  rintro _ rfl
  rw[List.filter_map,List.map_map]
  rfl
 rw[key s (vI s _),List.nil_append] at h0
 refine h0.trans ?_
 have e:((List.range s.length).filter fun k=>decide (aC s k∈set))=(List.range s.length).filter (b7 s refs):=by
  refine List.filter_congr fun k hk => ?_
  rw[Bool.eq_iff_iff,decide_eq_true_eq,L0]
  exact h k (List.mem_range.1 hk)
 rw[e]
theorem Ji {m:Nat} (IH : ∀ set,Qd s refs set→pE s set < m→kf s true set=some ((((List.range s.length).filter (b7 s refs)).map (aC s),()),())) : ∀(j i:Nat) (more:Bool) (set:List al),i+j=s.length→Qd s refs set→pE s set≤m→(more=true→pE s set < m)→(more=false → ∀ k,k < i→aC s k ∉ set→BA (mw s k) set=false) →
  fe s more (i:Int) set=some ((((List.range s.length).filter (b7 s refs)).map (aC s),()),())
 | 0,i,more,set,h,hI,h1,h2,h3=>by
  have hl:=hI.len
  rw[uh,aw (by omega)]
  cases more with
  | true=>exact IH set hI (h2 rfl)
  | false =>
   rw[uf,if_neg (by decide)]
   exact Wa hs (by omega) (SA hs hI fun k hk=>h3 rfl k (by omega))
 | j+1,i,more,set,h,hI,h1,h2,h3=>by
  have hn:=bd hs
  have hi:i < s.length:=by omega
  have hl:=hI.len
  have hw:IntKind.i64.wrap ((i:Int)+1)=((i+1:Nat):Int):=kR (by omega) (by omega)
  have har:(mw s i).length≤60:=Cg (cP hs i)
  have hix : ∀ {β:Type} (F:aj→Option β),ix s (i:Int) ap.dflt F=F (s.getD i ap.dflt):=fun F=>jB (oc hi)
  rw[uh,az (by omega),hix,hix,rK _ (by omega),Option.bind_some,hw]
  show(if decide (aC s i∈set)=true then _ else((tH (fo s i)).bind fun z2=>(gH s more (i:Int) false 0 set z2.1.1)))=_
  by_cases e:aC s i∈set
  ·rw[decide_eq_true e,if_pos rfl]
   refine Ji IH j (i+1) more set (by omega) hI h1 h2 (fun hm k hk hf => ?_)
   by_cases ek:k=i
   ·rw[ek] at hf
    exact absurd e hf
   ·exact h3 hm k (by omega) hf
  ·rw[decide_eq_false e,if_neg (by decide),CY (cP hs i),Option.bind_some]
   have h12:=Sz hs (more:=more) hi (ar:=mw s i) (by omega) (set:=set) (by omega) (mw s i) [] false rfl
   refine Eq.trans h12 ?_
   rw[Bool.false_or]
   by_cases hh:BA (mw s i) set=true
   ·have hlt:=Ub hi e
    rw[if_pos hh]
    refine Ji IH j (i+1) true (set++[aC s i]) (by omega) ⟨fun r hr=>List.mem_append_left _ (hI.ref r hr),fun r hr => ?_,by rw[List.length_append,List.length_singleton]; omega⟩ (by omega) (fun _=>by omega) (fun hm=>by cases hm)
    rcases List.mem_append.1 hr with hr | hr
    ·exact hI.snd r hr
    ·refine .inr ⟨i,hi,(List.mem_singleton.1 hr).symm,?_⟩
     obtain⟨a,h4,h5⟩:=List.any_eq_true.1 hh
     obtain⟨q,h6,h7⟩:=List.any_eq_true.1 h5
     have ha:((mw s i).any fun a=>dI a q)=true:=List.any_eq_true.2 ⟨a,h4,h7⟩
     rcases hI.snd q h6 with h8 | ⟨k,h8,h9,h10⟩
     ·refine .base ?_
      unfold gt
      rw[Bool.or_eq_true]
      exact .inr (List.any_eq_true.2 ⟨q,h8,ha⟩)
     ·refine .step (k:=k) (Cf.2 ⟨h8,?_⟩) h10
      rw[h9]
      exact ha
   ·rw[if_neg hh]
    refine Ji IH j (i+1) more set (by omega) hI h1 h2 (fun hm k hk hf => ?_)
    by_cases ek:k=i
    ·rw[ek]
     simpa using hh
    ·exact h3 hm k (by omega) hf
theorem UC : ∀(m:Nat) (set:List al),Qd s refs set→pE s set < m→kf s true set=some ((((List.range s.length).filter (b7 s refs)).map (aC s),()),())
 | 0,set,_,h=>by omega
 | m+1,set,hI,h=>by
  rw[uf,if_pos rfl]
  exact Ji hs (m:=m) (fun o h1 h2=>UC m o h1 h2) s.length 0 false set (by omega) hI (by omega) (fun hm=>by cases hm) (fun _ k hk=>by omega)
theorem M0 (hr:refs.length≤120):yC s refs=some ((((List.range s.length).filter (b7 s refs)).map (aC s),()),()):=by
 have hn:=bd hs
 have hle:=Uc (s:=s) refs
 rw[IW,bv (by simp only[List.length_nil]; omega),List.nil_append]
 exact UC hs (pE s refs+1) refs ⟨fun r h=>h,fun r h => .inl h,by omega⟩ (by omega)
end
theorem It {s:List aj} {t t':Nat→Bool} {g g':Nat→ab} (ht : ∀ k,k < s.length→t k=t' k) (hg : ∀ k,k < s.length→t k=true→g k=g' k) : ∀(n k:Nat),k < s.length→kE s t g n k=kE s t' g' n k
 | 0,k,hk=>rfl
 | n+1,k,hk=>by
  unfold kE
  rw[←ht k hk]
  by_cases h:t k=true
  ·rw[if_pos h,if_pos h,hg k hk h]
  ·rw[if_neg h,if_neg h,vJ fun j hj=>It ht hg n j hj]
theorem Iu {s:List aj} {t t':Nat→Bool} {g g':Nat→ab} (ht : ∀ k,k < s.length→t k=t' k) (hg : ∀ k,k < s.length→t k=true→g k=g' k) {k:Nat} (hk:k < s.length):cO s t g k=cO s t' g' k:=It ht hg _ k hk
noncomputable def Qe (s:List aj) (k:Nat):ab:=cO s (fun _=>false) (fun _=>v0) k
noncomputable def zv (s:List aj):List ac:=if bQ s=true then aO s (Qe s) else []
noncomputable def WB (s:List aj) (old:List ac) (ch:List al) (k:Nat):ab:=cO s (fun k => !b7 s ch k) (fun k=>dN old (aC s k)) k
noncomputable def zw (s:List aj) (old:List ac) (ch:List al):List ac:=if bQ s=true∧g8 old=true∧ch.length≤120 then aO s (WB s old ch) else []
theorem Iv {α:Type} (n k:Nat) (d:α):(List.replicate n d).getD k d=d:=by
 rw[List.getD_eq_getElem?_getD,List.getElem?_replicate]
 split <;> rfl
section
variable {s:List aj} (hs:bQ s=true)
include hs
theorem M1 : ∀ c∈s,c.2.1.size≤9223372036854775807:=fun c hc=>Nat.le_trans (pD hs c hc) (by decide)
theorem F3:tN s=some ((aO s (Qe s),()),()):=by
 have hn:=bd hs
 rw[Fg,Bw (by omega) (M1 hs),Option.bind_some,rt (by omega),rt (by omega)]
 have e:=C1 (told:=fun _=>false) (given:=fun _=>v0) hs (td:=List.replicate s.length false) (gv:=List.replicate s.length ag.dflt) (by simp) (by simp) (fun v hv=>by
  rw[List.eq_of_mem_replicate hv]
  exact PG) (fun k _=>(Iv _ _ _).symm) (fun k _=>(Iv _ _ (v0:ab)).symm)
 rw[e]
 rfl
theorem L4 : ∀(ys pre:List aj) (acc:List al),s=pre++ys→acc.length≤pre.length→vb s (pre.length:Int) acc=((w7 s ([]:(List ac)) (acc++ys.map (·.1))).bind fun z1=>(some ((z1.1.1,()),(()))))
 | [],pre,acc,h,ha=>by
  rw[A0,aw (bi h)]
  simp
 | y :: ys,pre,acc,h,ha=>by
  have hn:=bd hs
  have hlen:s.length=pre.length+(ys.length+1):=by rw[h]; simp
  rw[A0,az (bq h),bk h,bv (by simp only[List.length_singleton]; omega),aL h (by omega),L4 ys _ _ (av h) (by simp only[List.length_append,List.length_singleton]; omega)]
  simp
theorem SB:Kc s=some ((aO s (Qe s),()),()):=by
 have hn:=bd hs
 have h0:=L4 hs s [] [] rfl (Nat.le_refl _)
 have e:aO s (cO s (fun k => !decide (aC s k∈s.map (·.1))) fun k=>dN [] (aC s k))=aO s (Qe s):=by
  have hm : ∀ k,k < s.length→aC s k∈s.map (·.1):=fun k hk=>List.mem_map.2 ⟨s.getD k ap.dflt,qw hk,rfl⟩
  refine vJ fun k hk=>Iu (fun j hj=>by rw[decide_eq_true (hm j hj)]; rfl) (fun j hj h => ?_) hk
  rw[decide_eq_true (hm j hj)] at h
  cases h
 rw[Rm]
 refine h0.trans ?_
 rw[List.nil_append,FZ hs (known:=[]) (by simp) (fun c hc=>by cases hc) (by rw[List.length_map]; omega),e]
 rfl
end
section
variable {s:List aj} (h1 : ∀ c∈s,c.2.1.size≤9223372036854775807) (h2:s.length≤1000000000)
include h1 h2
theorem L5:u7 s=some ((zv s,()),()):=by
 rw[KD,CV h1 h2,Option.bind_some]
 unfold zv
 cases h:bQ s with
 | false=>rfl
 | true =>
  dsimp only
  rw[if_neg (by decide),F3 h]
  rfl
theorem L6:AL s=some ((zv s,()),()):=by
 rw[Kt,CW h1 (by omega),Option.bind_some]
 unfold zv
 cases h:bQ s with
 | false=>rfl
 | true =>
  dsimp only
  rw[if_neg (by decide),SB h]
  rfl
variable {old:List ac} (h3 : ∀ c∈old,c.2.1.2.2.1.size≤9223372036854775807) (h4:old.length≤2000000) {ch:List al} (h5:ch.length≤1000000000)
include h3 h4 h5
theorem D3:rQ s old ch=some ((zw s old ch,()),()):=by
 rw[DE,CW h1 (by omega),Option.bind_some,Bd (by omega) h3]
 unfold zw
 cases h:bQ s with
 | false=>simp
 | true =>
  dsimp only
  rw[if_neg (by decide),Option.bind_some]
  cases hv:g8 old with
  | false=>simp
  | true =>
   dsimp only
   rw[if_neg (by decide)]
   by_cases hc:ch.length≤120
   ·have hn:=bd h
    have hfl:(((List.range s.length).filter (b7 s ch)).map (aC s)).length≤120:=by
     rw[List.length_map]
     have:=List.length_filter_le (b7 s ch) (List.range s.length)
     rw[List.length_range] at this
     omega
    rw[aw (by omega),if_pos ⟨rfl,rfl,hc⟩,M0 h hc,Option.bind_some]
    dsimp only
    rw[FZ h (by omega) (n8 hv) (by omega)]
    dsimp only[Option.bind_some]
    congr 3
    refine vJ fun k hk=>Iu (fun j hj => ?_) (fun j hj _=>rfl) hk
    congr 1
    rw[Bool.eq_iff_iff,decide_eq_true_eq]
    have:=LV (eQ h) (k:=j) (t:=(List.range s.length).filter (b7 s ch)) hj (fun i hi=>List.mem_range.1 (List.mem_filter.1 hi).1)
    rw[this,List.mem_filter]
    exact⟨fun x=>x.2,fun x=>⟨List.mem_range.2 hj,x⟩⟩
   ·rw[az (by omega),if_neg (fun x=>hc x.2.2)]
omit h1 h2 h3 h5 in
theorem SC (hs:bQ s=true) : ∀(ys pre:List aj) (gv:List ab) (o:List Bool),s=pre++ys→gv=(pre.map fun c=>dN old c.1)→o.length=ys.length →
  g6 old s (s.length:Int) (pre.length:Int) s gv (((List.range pre.length).map fun k => !b7 s ch k)++((List.range' pre.length ys.length).map (b7 s ch))) (gF s) (gL s)=((kb (gr s) ((List.range s.length).map fun k => !b7 s ch k) (s.map fun c=>dN old c.1)).bind fun z2=>(some ((z2.1.1,()),(()))))
 | [],pre,gv,o,h,hg,ho=>by
  have e:pre=s:=by rw[h]; simp
  rw[pO,aw (bi h),hg]
  simp only[List.length_nil,List.range'_zero,List.map_nil,List.append_nil]
  rw[e]
  rfl
 | y :: ys,pre,gv,o,h,hg,ho=>by
  have hn:=bd hs
  have hlen:s.length=pre.length+(ys.length+1):=by rw[h]; simp
  have hgl:gv.length=pre.length:=by rw[hg,List.length_map]
  have hrow:((List.range pre.length).map fun k => !b7 s ch k)++((List.range' pre.length (y :: ys).length).map (b7 s ch))=((List.range pre.length).map fun k => !b7 s ch k)++(b7 s ch pre.length :: ((List.range' (pre.length+1) ys.length).map (b7 s ch))):=by
   rw[List.length_cons,List.range'_succ,List.map_cons]
  have e0:((List.range pre.length).map fun k => !b7 s ch k).length=pre.length:=by rw[List.length_map,List.length_range]
  have hil:(pre.length:Int) < ((((List.range pre.length).map fun k => !b7 s ch k)++(b7 s ch pre.length :: ((List.range' (pre.length+1) ys.length).map (b7 s ch)))).length:Int):=by
   simp only[List.length_append,List.length_cons,List.length_map,List.length_range]
   omega
  have hgd:List.getD (((List.range pre.length).map fun k => !b7 s ch k)++(b7 s ch pre.length :: ((List.range' (pre.length+1) ys.length).map (b7 s ch)))) (Int.toNat (pre.length:Int)) false=b7 s ch pre.length:=by
   have:=lY (l:=(List.range pre.length).map fun k => !b7 s ch k) (r:=(List.range' (pre.length+1) ys.length).map (b7 s ch)) (y:=b7 s ch pre.length) (d:=false)
   rw[e0] at this
   exact this
  have hst:List.set (((List.range pre.length).map fun k => !b7 s ch k)++(b7 s ch pre.length :: ((List.range' (pre.length+1) ys.length).map (b7 s ch)))) (Int.toNat (pre.length:Int)) (!b7 s ch pre.length)=((List.range (pre++[y]).length).map fun k => !b7 s ch k)++((List.range' (pre++[y]).length ys.length).map (b7 s ch)):=by
   have:=tA (l:=(List.range pre.length).map fun k => !b7 s ch k) (r:=(List.range' (pre.length+1) ys.length).map (b7 s ch)) (y:=b7 s ch pre.length) (z := !b7 s ch pre.length)
   rw[e0] at this
   rw[this,List.length_append,List.length_singleton,List.range_succ,List.map_append,List.append_assoc,List.map_singleton]
   rfl
  rw[hrow,pO,az (bq h),bk h,bu (nn _) hil,bu (nn _) hil,FB (xs:=old) (by omega),Option.bind_some,bv (by simp only[List.length_singleton]; omega),hgd,hst,aL h (by omega)]
  exact SC hs ys (pre++[y]) _ (ys.map fun _=>true) (av h) (by rw[hg,List.map_append,List.map_singleton]) (by rw[List.length_map])
theorem D4:m8 s old ch=some ((zw s old ch,()),()):=by
 rw[DF,CV h1 h2,Option.bind_some,KQ (by omega) h3]
 unfold zw
 cases h:bQ s with
 | false=>simp
 | true =>
  dsimp only
  rw[if_neg (by decide),Option.bind_some]
  cases hv:g8 old with
  | false=>simp
  | true =>
   dsimp only
   rw[if_neg (by decide)]
   by_cases hc:ch.length≤120
   ·have hn:=bd h
    rw[aw (by omega),if_pos ⟨rfl,rfl,hc⟩,Bw (by omega) h1,Option.bind_some]
    dsimp only
    rw[Qc h hc,Option.bind_some]
    have h6:=SC (old:=old) h4 (ch:=ch) h s [] [] (s.map fun _=>true) rfl rfl (by simp)
    have er:(([]:List Bool)++((List.range' 0 s.length).map (b7 s ch)))=(List.range s.length).map (b7 s ch):=by rw[List.nil_append,List.range_eq_range']
    have h7:g6 old s (s.length:Int) 0 s ([]:List ab) (([]:List Bool)++((List.range' 0 s.length).map (b7 s ch))) (gF s) (gL s)=_:=h6
    rw[er] at h7
    refine Eq.trans h7 ?_
    have e:=C1 (told:=fun k => !b7 s ch k) (given:=fun k=>dN old (aC s k)) h (td:=(List.range s.length).map fun k => !b7 s ch k) (gv:=s.map fun c=>dN old c.1) (by simp) (by simp) (fun v hv'=>by
     obtain⟨c,_,rfl⟩:=List.mem_map.1 hv'
     exact zb (n8 hv)) (fun k hk=>by
     rw[List.getD_eq_getElem?_getD,List.getElem?_map,List.getElem?_range hk]
     rfl) (fun k hk=>by
     rw[List.getD_eq_getElem?_getD,List.getElem?_map,oc (d:=ap.dflt) hk]
     rfl)
    rw[e]
    rfl
   ·rw[az (by omega),if_neg (fun x=>hc x.2.2)]
end
section
variable {s:List aj} (hs:bQ s=true)
include hs
end
theorem G0 {α β:Type} {pre ys:List α} {y:α} {k:Option β}:inb (pre++y :: ys) (pre.length:Int) k=k:=lI rfl
theorem Wb {α β:Type} {pre ys:List α} {y d:α} {f:α→Option β}:ix (pre++y :: ys) (pre.length:Int) d f=f y:=bk rfl
theorem zR : ∀(n m:Nat) (acc:ByteArray),m≤n→acc.size+n≤1000000000000000000 → ∃ t,po (m:Int) acc=some ((t,()),())
 | n,0,acc,h,ha=>by
  rw[vp,aw (by decide),ip (by show 1+acc.size≤_; omega)]
  exact⟨_,rfl⟩
 | 0,m+1,acc,h,ha=>by omega
 | n+1,m+1,acc,h,ha=>by
  have hd:(m+1) / 10≤n:=by omega
  have hs:(strOfNums ([(IntKind.u8.wrap (IntKind.i64.wrap (48+(Int.tmod ((m+1:Nat):Int) 10))))]:List Int)).size=1:=rfl
  obtain⟨t,ht⟩:=zR n ((m+1) / 10) (strOfNums ([(IntKind.u8.wrap (IntKind.i64.wrap (48+(Int.tmod ((m+1:Nat):Int) 10))))]:List Int)++acc) hd (by rw[ByteArray.size_append,hs]; omega)
  rw[vp,az (by omega),ip (by rw[hs]; omega)]
  have e:IntKind.i64.wrap (Int.tdiv ((m+1:Nat):Int) 10)=(((m+1) / 10:Nat):Int):=by
   have:Int.tdiv ((m+1:Nat):Int) 10=(((m+1) / 10:Nat):Int):=rfl
   rw[this,wr (by omega) (by omega)]
  rw[e]
  exact⟨t,ht⟩
theorem C2 {k:Int} (h0:0≤k) (h1:k≤100000000000000) : ∃ t,rk k=some ((t,()),()):=by
 obtain⟨n,rfl⟩:=Int.eq_ofNat_of_zero_le h0
 rw[KE]
 by_cases h:(n:Int)≤0
 ·rw[az h]
  exact⟨_,rfl⟩
 ·rw[aw h]
  exact zR n n _ (Nat.le_refl _) (by show 0+n≤_; omega)
theorem G1 {α β:Type} {pre ys:List α} {y d:α} {f:α→α} {k:List α→β}:gj d (pre++y :: ys) (pre.length:Int) f k=k (pre++f y :: ys):=by
 unfold gj
 rw[lY,tA]
theorem vK {α:Type} {M:Int→Int→List α→Option ((Int×Unit)×(List α×Unit))} {H:List α→Int→Int→Option ((Int×Unit)×Unit)} {w:Nat} (hw:w≤10)
  (hM : ∀ k pre y ys,0≤k→k≤10000000000000→(pre++y :: ys).length≤1000000000 → ∃ z,M k (pre.length:Int) (pre++y :: ys)=M (k+w) ((pre.length:Int)+1) (pre++z :: ys) ∧ ∀ pre' ys',(pre'++z :: ys').length≤1000000000→H (pre'++z :: ys') k (pre'.length:Int)=H (pre'++z :: ys') (k+w) ((pre'.length:Int)+1))
  (hM0 : ∀ k pre,M k (pre.length:Int) pre=some ((k,()),(pre,()))) (hH0 : ∀ k pre,H pre k (pre.length:Int)=some ((k,()),())) :
  ∀(ys pre:List α) (k:Int),0≤k→k+10*ys.length≤10000000000000→(pre++ys).length≤1000000000 → ∃ zs,zs.length=ys.length∧M k (pre.length:Int) (pre++ys)=some ((k+w*ys.length,()),(pre++zs,())) ∧ ∀ pre',pre'.length+ys.length≤1000000000→H (pre'++zs) k (pre'.length:Int)=some ((k+w*ys.length,()),())
 | [],pre,k,h0,h1,hl=>by
  refine⟨[],rfl,?_,fun pre' _ => ?_⟩
  ·rw[List.append_nil,hM0]
   simp
  ·rw[List.append_nil,hH0]
   simp
 | y :: ys,pre,k,h0,h1,hl=>by
  rw[List.length_cons] at h1
  obtain⟨z,hz1,hz2⟩:=hM k pre y ys h0 (by omega) hl
  obtain⟨zs,e0,e1,e2⟩:=vK hw hM hM0 hH0 ys (pre++[z]) (k+w) (by omega) (by omega) (by simp only[List.length_append,List.length_cons,List.length_nil] at hl ⊢; omega)
  have ek:k+(w:Int)+(w:Int)*(ys.length:Int)=k+(w:Int)*((y :: ys).length:Int):=by
   rw[List.length_cons,Int.natCast_add,Int.mul_add]
   omega
  refine⟨z :: zs,by simp[e0],?_,fun pre' hp => ?_⟩
  ·rw[hz1]
   have:((pre++[z]).length:Int)=(pre.length:Int)+1:=by simp
   rw[this] at e1
   have e3:pre++[z]++ys=pre++z :: ys:=by simp
   have e4:pre++[z]++zs=pre++z :: zs:=by simp
   rw[e3,e4,ek] at e1
   exact e1
  ·rw[List.length_cons] at hp
   rw[hz2 pre' zs (by simp only[List.length_append,List.length_cons]; omega)]
   have:=e2 (pre'++[z]) (by simp only[List.length_append,List.length_singleton]; omega)
   have e5:((pre'++[z]).length:Int)=(pre'.length:Int)+1:=by simp
   have e4:pre'++[z]++zs=pre'++z :: zs:=by simp
   rw[e5,e4,ek] at this
   exact this
theorem zx {s:List ac} {k:Int} (h0:0≤k) (h1:k+10*s.length≤10000000000000) (hl:s.length≤1000000000) : ∃ zs,zs.length=s.length∧ge k s=some ((k+5*s.length,()),(zs,()))∧fT zs k=some ((k+5*s.length,()),()):=by
 obtain⟨zs,e0,e1,e2⟩:=vK (M:=fun k i s=>gn k i s) (H:=fun s k i=>iE s k i) (w:=5) (by decide) (fun k pre y ys h0 h1 hl=>by
  have hp:pre.length < 1000000000:=by simp only[List.length_append,List.length_cons] at hl; omega
  obtain⟨t,ht⟩:=C2 (k:=k+4) (by omega) (by omega)
  refine⟨((k,k+1,()),(k+2,k+3,t,()),()),?_,fun pre' ys' hl' => ?_⟩
  ·rw[mt,az tB]
   have a1:IntKind.i64.wrap (k+1)=k+1:=wr (by omega) (by omega)
   have a2:IntKind.i64.wrap (k+1+1)=k+2:=by rw[wr (by omega) (by omega)]; omega
   have a3:IntKind.i64.wrap (k+2+1)=k+3:=by rw[wr (by omega) (by omega)]; omega
   have a4:IntKind.i64.wrap (k+3+1)=k+4:=by rw[wr (by omega) (by omega)]; omega
   have a5:IntKind.i64.wrap (k+4+1)=k+5:=by rw[wr (by omega) (by omega)]; omega
   have b:IntKind.i64.wrap ((pre.length:Int)+1)=(pre.length:Int)+1:=wr (by omega) (by omega)
   simp only[a1,a2,a3,a4,a5,b,ht,Option.bind_some,G0,G1]
   rfl
  ·have hp':pre'.length < 1000000000:=by simp only[List.length_append,List.length_cons] at hl'; omega
   rw[n4,az tB]
   have a1:IntKind.i64.wrap (k+1)=k+1:=wr (by omega) (by omega)
   have a2:IntKind.i64.wrap (k+1+1)=k+2:=by rw[wr (by omega) (by omega)]; omega
   have a3:IntKind.i64.wrap (k+2+1)=k+3:=by rw[wr (by omega) (by omega)]; omega
   have a4:IntKind.i64.wrap (k+3+1)=k+4:=by rw[wr (by omega) (by omega)]; omega
   have a5:IntKind.i64.wrap (k+4+1)=k+5:=by rw[wr (by omega) (by omega)]; omega
   have b:IntKind.i64.wrap ((pre'.length:Int)+1)=(pre'.length:Int)+1:=wr (by omega) (by omega)
   simp only[Wb,a1,a2,a3,a4,a5,b,ht,Option.bind_some,bne_self_eq_false,beq_self_eq_true,Bool.not_true,Bool.false_eq_true,if_false]
   rfl)
  (fun k pre=>by rw[mt,aw (Int.lt_irrefl _)]) (fun k pre=>by rw[n4,aw (Int.lt_irrefl _)]) s [] k h0 h1 (by simpa using hl)
 refine⟨zs,e0,?_,?_⟩
 ·rw[yN]
  exact e1
 ·rw[AW]
  exact e2 [] (by simp; omega)
theorem M2 {s:List al} {k:Int} (h0:0≤k) (h1:k+10*s.length≤10000000000000) (hl:s.length≤1000000000) : ∃ zs,zs.length=s.length∧vQ k s=some ((k+2*s.length,()),(zs,())):=by
 obtain⟨zs,e0,e1,e2⟩:=vK (M:=fun k i s=>mh k i s) (H:=fun s k i=>if(s.length:Int)=i then some ((k,()),()) else some ((k+(2:Nat)*((s.length:Int) - i),()),())) (w:=2) (by decide) (fun k pre y ys h0 h1 hl=>by
  have hp:pre.length < 1000000000:=by simp only[List.length_append,List.length_cons] at hl; omega
  refine⟨(k,k+1,()),?_,fun pre' ys' hl' => ?_⟩
  ·rw[si,az tB]
   simp only[G0,lY,tA,G1]
   have a1:IntKind.i64.wrap (k+1)=k+1:=wr (by omega) (by omega)
   have a3:IntKind.i64.wrap (k+1+1)=k+2:=by rw[wr (by omega) (by omega)]; omega
   have a4:IntKind.i64.wrap ((pre.length:Int)+1)=(pre.length:Int)+1:=wr (by omega) (by omega)
   simp only[a1,a3,a4]
   rfl
  ·have:((pre'++(k,k+1,()) :: ys').length:Int)=(pre'.length:Int)+1+ys'.length:=by simp; omega
   rw[this,if_neg (by omega)]
   split
   ·congr 3
    omega
   ·congr 3
    omega)
  (fun k pre=>by rw[si,aw (Int.lt_irrefl _)]) (fun k pre=>by rw[if_pos rfl]) s [] k h0 h1 (by simpa using hl)
 refine⟨zs,e0,?_⟩
 rw[Gx]
 exact e1
theorem BB {s:List aj} {k:Int} (h0:0≤k) (h1:k+10*s.length≤10000000000000) (hl:s.length≤1000000000) : ∃ zs,zs.length=s.length∧oX k s=some ((k+3*s.length,()),(zs,())):=by
 obtain⟨zs,e0,e1,e2⟩:=vK (M:=fun k i s=>kP k i s) (H:=fun s k i=>if(s.length:Int)=i then some ((k,()),()) else some ((k+(3:Nat)*((s.length:Int) - i),()),())) (w:=3) (by decide) (fun k pre y ys h0 h1 hl=>by
  have hp:pre.length < 1000000000:=by simp only[List.length_append,List.length_cons] at hl; omega
  obtain⟨t,ht⟩:=C2 (k:=k+1+1) (by omega) (by omega)
  refine⟨((k,k+1,()),t,()),?_,fun pre' ys' hl' => ?_⟩
  ·rw[rB,az tB]
   simp only[G0,lY,tA,G1]
   have a1:IntKind.i64.wrap (k+1)=k+1:=wr (by omega) (by omega)
   have a2:IntKind.i64.wrap (k+1+1)=k+1+1:=wr (by omega) (by omega)
   have a3:IntKind.i64.wrap (k+1+1+1)=k+3:=by rw[wr (by omega) (by omega)]; omega
   have a4:IntKind.i64.wrap ((pre.length:Int)+1)=(pre.length:Int)+1:=wr (by omega) (by omega)
   simp only[a1,a2,a3,a4,ht,Option.bind_some]
   rfl
  ·have:((pre'++((k,k+1,()),t,()) :: ys').length:Int)=(pre'.length:Int)+1+ys'.length:=by simp; omega
   rw[this,if_neg (by omega)]
   split
   ·congr 3
    omega
   ·congr 3
    omega)
  (fun k pre=>by rw[rB,aw (Int.lt_irrefl _)]) (fun k pre=>by rw[if_pos rfl]) s [] k h0 h1 (by simpa using hl)
 refine⟨zs,e0,?_⟩
 rw[Fi]
 exact e1
end Go.Proofs.YtnodjiikdgmeaaaGreatDoor.Abs
