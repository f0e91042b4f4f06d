/- laws.FnExactAllApplied holds: whatever the input, it returns true and the input reads as it did. -/
import Derived.Test.YtddiiceaindlhaaGreatDoorRows
import Derived.Test.YtddiiceaindlhaaGreatDoorChecked
import Derived.Test.YtddiiceaindlhaaGreatDoorZEnv
import Derived.WalkKit
import Derived.ProofKit
import Derived.OpenShut
import Derived.ShutString
import Derived.ChangeOld
import Derived.Below
import Derived.SizedLaws
import Derived.Test.YtddiiceaindlhaaGreatDoorTie
import Derived.Test.YtddiiceaindlhaaGreatDoorCards
import Derived.LaidMore
import Derived.Stop.Joined
import Derived.LaidSub
import Derived.SevenTiedAt
import Derived.Lay
import Derived.Stop.LaidErr
import Derived.Test.YtddiiceaindlhaaGreatDoorZL1
import Derived.Test.YtddiiceaindlhaaGreatDoorZPLEdits
namespace Go.Proofs.YtddiiceaindlhaaGreatDoor.fnExactAllApplied
open Go.ChangeShapes Go.WideShapes Go.ChangeAt Go.RowKit Go.Proofs.YtddiiceaindlhaaGreatDoor.Abs
set_option linter.unusedVariables false
theorem own:ownKnob Tryz.prog.godebug=none:=by kernel_rfl
theorem nI:laidOutB Tryz.prog=true:=by kernel_rfl
theorem tZ (os:Os) (args:Array Value):laidMetH Tryz.prog Rows.fnExactAllAppliedRow.laid ((World.laidAll Tryz.prog os Rows.fnExactAllAppliedRow.laid).forCall (fun _ _=>0) ⟨#[],args,[]⟩).memory :=
 by rw[MakeChecks.laidMetH_plain _ _ _ (by kernel_rfl)]; exact laidMet_laidAll _ (by kernel_rfl) (by kernel_rfl)
theorem nJ : "*" ++ "errors.errorString" = "*errors.errorString" := by decide
theorem rf (u:TypeId) (h:Tryz.prog.typeName? 3 u=some "*errors.errorString"):u=262:=typeName_ptr_named (nm := "errors.errorString") (by rw[nJ]; kernel_rfl) (by kernel_rfl) (by decide) u (by rw[nJ]; exact h)
theorem jT {W:World} (h:laidMetH Tryz.prog Rows.fnExactAllAppliedRow.laid W) : ∃ a,W.var? Tryz.prog "strconv.ErrSyntax" = some a ∧ ∃ tp p,a = #[.iface tp p]:=by
 have h2:laidMetH Tryz.prog [("strconv.ErrSyntax",Rows.laid_strconv_ErrSyntax)] W:=h.filter fun x=>x.1 == "strconv.ErrSyntax"
 rw[MakeChecks.laidMetH_plain _ _ _ (by kernel_rfl)] at h2
 obtain⟨a,s,hv,_⟩:=laid_sentinel (g:=0) (ti:=141) (tp:=262) (te:=264) (ts:=9) h2 (by kernel_rfl) (by kernel_rfl) Tryz.underlying141 rf Tryz.underlying262 Tryz.underlying264 rfl rfl Tryz.underlying9 (by kernel_rfl) (by kernel_rfl)
 exact⟨_,hv,_,_,rfl⟩
theorem ll {W:World} (h:laidMetH Tryz.prog Rows.fnExactAllAppliedRow.laid W) : ∃ a,W.var? Tryz.prog "strconv.ErrRange" = some a ∧ ∃ tp p,a = #[.iface tp p]:=by
 have h2:laidMetH Tryz.prog [("strconv.ErrRange",Rows.laid_strconv_ErrRange)] W:=h.filter fun x=>x.1 == "strconv.ErrRange"
 rw[MakeChecks.laidMetH_plain _ _ _ (by kernel_rfl)] at h2
 obtain⟨a,s,hv,_⟩:=laid_sentinel (g:=1) (ti:=141) (tp:=262) (te:=264) (ts:=9) h2 (by kernel_rfl) (by kernel_rfl) Tryz.underlying141 rf Tryz.underlying262 Tryz.underlying264 rfl rfl Tryz.underlying9 (by kernel_rfl) (by kernel_rfl)
 exact⟨_,hv,_,_,rfl⟩
theorem pf {W:World} (h:laidMetH Tryz.prog Rows.fnExactAllAppliedRow.laid W) : ∃ a,W.var? Tryz.prog "internal/strconv.uint64pow10" = some a∧a=(Lib.pow10Tab.map fun z=>Value.int .u64 z).toArray:=by
 have h2:laidMetH Tryz.prog [("internal/strconv.uint64pow10",Lib.tabData .u64 Lib.pow10Tab)] W:=h.filter fun x=>x.1 == "internal/strconv.uint64pow10"
 rw[MakeChecks.laidMetH_plain _ _ _ (by kernel_rfl)] at h2
 have h3:Lib.TabIs Tryz.prog W "internal/strconv.uint64pow10" .u64 Lib.pow10Tab:=Lib.tabIs_of_head (g:=2) (t:=267) (e:=170) (n:=20) (by kernel_rfl) (by kernel_rfl) Tryz.underlying267 Tryz.underlying170 (by kernel_rfl) (by kernel_rfl) h2
 exact⟨_,h3,rfl⟩
theorem xn {W:World} (h:laidMetH Tryz.prog Rows.fnExactAllAppliedRow.laid W) (hs:W.ShapedOpen Tryz.prog):dA Tryz.prog vars W (kg [] fun _=>none):=by
 intro p hp
 unfold vars at hp
 rcases List.mem_cons.1 hp with rfl | hp
 ·exact⟨jT h,fun _ _ hx=>by obtain⟨_,_,hx,_⟩:=hx; cases hx⟩
 rcases List.mem_cons.1 hp with rfl | hp
 ·exact⟨ll h,fun _ _ hx=>by obtain⟨_,_,hx,_⟩:=hx; cases hx⟩
 rcases List.mem_cons.1 hp with rfl | hp
 ·exact⟨pf h,fun _ _ hx=>by obtain⟨_,_,hx,_⟩:=hx; cases hx⟩
 rcases List.mem_cons.1 hp with rfl | hp
 ·exact⟨zw (g:=5) (by kernel_rfl) (vt hs),fun _ _ hx=>by obtain⟨_,_,hx,_⟩:=hx; cases hx⟩
 cases hp
set_option maxRecDepth 100000 in
theorem lifted (os:Os) (started:os.Started) (H:Type) (enc:TypeId×Value→H) :
  ReturnsInHanded {} Tryz.checked os 7 .any (fun w args=>(Rows.fnExactAllAppliedSpec.pre enc Tryz.prog Tryz.f7 Rows.fnExactAllAppliedRow.domain false w args∧laidMetH Tryz.prog Rows.fnExactAllAppliedRow.laid w)∧sizedMet enc Tryz.prog Tryz.f7 (OpenSpec.ofChange Rows.fnExactAllAppliedSpec) false w args) (Rows.fnExactAllAppliedSpec.post enc Tryz.prog Tryz.f7 false true false false):=by
 refine ge (C:=Tryz.checked) (X:=fun w _=>laidMetH Tryz.prog Rows.fnExactAllAppliedRow.laid w) (fun _ _ _ hh h=>h.of_heap hh) own started (by kernel_rfl) Tryz.func7
  (ChangeSpec.witness_shaped (enc:=enc) (C:=Tryz.checked) (os:=os) (X:=fun w _=>laidMetH Tryz.prog Rows.fnExactAllAppliedRow.laid w) false (World.laidAll Tryz.prog os Rows.fnExactAllAppliedRow.laid) #[.slice none 0 0,.slice none 0 0] 8 (World.laidAll_os _ _ _) (World.shaped_of_ZipB (by kernel_rfl) (by kernel_rfl)) (by kernel_rfl) (by kernel_rfl) (by kernel_rfl) (tZ os _)) ?_
 intro W base args ds gs before hval0 hW _ _ hL hSh _
 have hval : ∀(j:Nat) t v,Tryz.f7.params[j]? = some t→args[j]? = some v→Value.okWide Tryz.prog W .any base t v:=hval0
 have hW':=hW
 obtain⟨p,q,hA0,hV,rfl,hfz,hnd⟩:=hW
 have hA:DataW.TrodAll enc Tryz.prog W 0 (fun _=>true) true Tryz.f7.params.toList args.toList ds p:=hA0
 rw[Tryz.params7] at hA hval
 obtain⟨v0,vs0,d0,ds0,p0,q0,hargs,rfl,rfl,h0,r0⟩:=trodAll_cons hA
 obtain⟨v1,vs1,d1,ds1,p1,q1,rfl,rfl,rfl,h1,r1⟩:=trodAll_cons r0
 obtain⟨rfl,rfl,rfl⟩:=trodAll_nil r1
 obtain rfl:args = #[v0,v1]:=by cases args; simp_all
 obtain⟨rfl,rfl⟩:=trodVars_none hV
 have k0:=h0
 have lt0 : ∀ x∈p0,x.block < W.heap.size:=by obtain⟨m,hm⟩:=k0; exact DataW.trod_lt m _ _ _ hm
 obtain⟨y0,m0,e0,z0⟩:=wc (d:=9) (T:=22) (t:=(.slice 69 ac)) (by kernel_rfl) (hval 0 22 v0 rfl rfl) h0
 have k1:=h1
 have lt1 : ∀ x∈p1,x.block < W.heap.size:=by obtain⟨m,hm⟩:=k1; exact DataW.trod_lt m _ _ _ hm
 obtain⟨y1,m1,e1,z1⟩:=wc (d:=9) (T:=60) (t:=(.slice 28 ak)) (by kernel_rfl) (hval 1 60 v1 rfl rfl) h1
 clear hA0 hval0
 refine(zv (P:=Tryz.prog) (E:=E) (Gp:=dA Tryz.prog vars) (I:=jl) (key:=7) dA.stable (by kernel_rfl) Jz CR (by kernel_rfl) (pE.ofL (xm m0 m1)) (by kernel_rfl) (by kernel_rfl) (by kernel_rfl) (w:=W) (us:=[v0,v1]) (xn hL hSh) (.cons (wd e0 z0) (.cons (wd e1 z1) (.nil)))).mono fun e W' ⟨he,bel⟩ => ?_
 subst he
 exact⟨_,rfl,_,_,_,[],_,[],hW',trodAll_mk1 (shut_bool Tryz.underlying4 _),(trodAll_cons_mk (Below.trod nI (by kernel_rfl) (of_decide_eq_true (by kernel_rfl)) k0 bel lt0) (trodAll_cons_mk (Below.trod nI (by kernel_rfl) (of_decide_eq_true (by kernel_rfl)) k1 bel lt1) trodAll_mk0)),rfl,bel.frame _,fun h=>by cases h⟩
theorem Fg:laidOutB Tryz.pinned.checked.prog=true:=by kernel_rfl
theorem Fh:(Rows.fnExactAllAppliedRow.inPlace == Tryz.pinned.checked.prog.inPlace 7)=true:=by kernel_rfl
theorem Fi:(Rows.fnExactAllAppliedRow.unfollowed == Tryz.pinned.checked.prog.unfollowed 7)=true:=by kernel_rfl
theorem Fj:(Rows.fnExactAllAppliedRow.recurses == Tryz.pinned.checked.prog.recurses 7)=true:=by kernel_rfl
theorem Fk:(Rows.fnExactAllAppliedRow.named == Tryz.pinned.checked.prog.varsNamed 7)=true:=by kernel_rfl
theorem Fl:Tryz.pinned.checked.prog.stopsHeard=true:=by kernel_rfl
theorem Fm:Tryz.pinned.checked.prog.mayEnter=true:=by kernel_rfl
theorem Fo:(Rows.fnExactAllAppliedRow.lifted == Tryz.pinned.checked.prog.liftsFinal)=true:=by kernel_rfl
theorem Fp:joinedFacts Tryz.pinned.checked.prog 7 Tryz.f7 Rows.fnExactAllAppliedSpec Rows.fnExactAllAppliedRow=true:=by
 rw[joinedFacts,Fg,Fh,Fi,Fj,Fk,Fl,Fm,Fo]
 kernel_rfl
theorem KG:Rows.fnExactAllAppliedRow.holds Tryz.pinned (OpenSpec.ofChange Rows.fnExactAllAppliedSpec) :=
 OpenClaim.holds_of_wide 7 Tryz.f7 rfl rfl rfl rfl rfl rfl rfl ⟨rfl,rfl,rfl,rfl,rfl⟩ rfl rfl rfl rfl rfl (by kernel_rfl) Tryz.func7 Fp
  (of_decide_eq_true (by kernel_rfl)) (by unfold Func.isWrapper; first | (rw[if_pos (by decide +kernel)]; kernel_rfl) | (rw[if_neg (by decide +kernel)]; exact⟨rfl,rfl⟩))
  (fun os started H enc _=>lifted os started H enc)
theorem AO:Rows.fnExactAllAppliedRow.wfByText (.ofChange Rows.fnExactAllAppliedSpec)=true:=by kernel_rfl
theorem mainIs:Tryz.pinned.checked.prog.mainIs=some (true, "d5b0e728e656644dec81cefc0219d5bcd9d73c55bac59883d8e88a1a10b0395c".toList):=by kernel_rfl
theorem xo:true=Tryz.pinned.checked.prog.looks []:=by kernel_rfl
theorem AP:false=Rows.fnExactAllAppliedRow.goesBy Tryz.pinned.checked.prog:=by kernel_rfl
theorem t6:([22,60].all fun u => !Tryz.prog.wantsStandIn u)=true:=by kernel_rfl
theorem proved:Rows.FnExactAllAppliedCardSaid :=
 Claim7.holds_tied_plain_at .later [] [.data,.data,.data,.data,.sentinel,.sentinel,.pinned] true (true, "d5b0e728e656644dec81cefc0219d5bcd9d73c55bac59883d8e88a1a10b0395c") true KG (fun _ h=>by cases h) AO (fun _ h=>by cases h) fnExactAllApplied_row_tie rfl ⟨rfl,rfl⟩ mainIs rfl
  (fun f fn hf hfn=>by
   obtain rfl:f=7:=Option.some.inj ((show Tryz.prog.funcNamed "loop.example/g00267/laws.FnExactAllApplied" = some 7 by kernel_rfl).symm.trans hf) |>.symm
   obtain rfl:fn=Tryz.f7:=(Option.some.inj (Tryz.func7.symm.trans hfn)).symm
   exact⟨xo,fun j t ht=>by
    rw[Tryz.params7] at ht
    have hm:t∈[22,60]:=by simpa using Array.mem_of_getElem? ht
    exact(show Tryz.prog.wantsStandIn t=false by simpa using List.all_eq_true.1 t6 t hm)⟩)
  AP
#print axioms proved
end Go.Proofs.YtddiiceaindlhaaGreatDoor.fnExactAllApplied
namespace Go.Proofs.YtddiiceaindlhaaGreatDoor
theorem fnExactAllApplied_holds:Rows.FnExactAllAppliedCardSaid:=fnExactAllApplied.proved
end Go.Proofs.YtddiiceaindlhaaGreatDoor
