/- laws.FnExactRecalculated holds: whatever the input, it returns true and the input reads as it did. -/
import Derived.Test.YtnodjiikdgmeaaaGreatDoorRows
import Derived.Test.YtnodjiikdgmeaaaGreatDoorChecked
import Derived.Test.YtnodjiikdgmeaaaGreatDoorZEnv
import Derived.WalkKit
import Derived.ProofKit
import Derived.OpenShut
import Derived.ShutString
import Derived.ChangeOld
import Derived.Below
import Derived.SizedLaws
import Derived.Test.YtnodjiikdgmeaaaGreatDoorTie
import Derived.Test.YtnodjiikdgmeaaaGreatDoorCards
import Derived.LaidMore
import Derived.Stop.Joined
import Derived.LaidSub
import Derived.SevenTiedAt
import Derived.Lay
import Derived.Stop.LaidErr
import Derived.Test.YtnodjiikdgmeaaaGreatDoorZM2
import Derived.Test.YtnodjiikdgmeaaaGreatDoorZPLValues
namespace Go.Proofs.YtnodjiikdgmeaaaGreatDoor.fnExactRecalculated
open Go.ChangeShapes Go.WideShapes Go.ChangeAt Go.RowKit Go.Proofs.YtnodjiikdgmeaaaGreatDoor.Abs
set_option linter.unusedVariables false
theorem own:ownKnob Tryz.prog.godebug=none:=by kernel_rfl
theorem xQ:laidOutB Tryz.prog=true:=by kernel_rfl
theorem D7 (os:Os) (args:Array Value):laidMetH Tryz.prog Rows.fnExactRecalculatedRow.laid ((World.laidAll Tryz.prog os Rows.fnExactRecalculatedRow.laid).forCall (fun _ _=>0) ⟨#[],args,[]⟩).memory :=
 by rw[MakeChecks.laidMetH_plain _ _ _ (by kernel_rfl)]; exact laidMet_laidAll _ (by kernel_rfl) (by kernel_rfl)
theorem xR : "*" ++ "errors.errorString" = "*errors.errorString" := by decide
theorem BE (u:TypeId) (h:Tryz.prog.typeName? 3 u=some "*errors.errorString"):u=235:=typeName_ptr_named (nm := "errors.errorString") (by rw[xR]; kernel_rfl) (by kernel_rfl) (by decide) u (by rw[xR]; exact h)
theorem r6 {W:World} (h:laidMetH Tryz.prog Rows.fnExactRecalculatedRow.laid W) : ∃ a,W.var? Tryz.prog "strconv.ErrSyntax" = some a ∧ ∃ tp p,a = #[.iface tp p]:=by
 have h2:laidMetH Tryz.prog [("strconv.ErrSyntax",Rows.laid_strconv_ErrSyntax)] W:=h.filter fun x=>x.1 == "strconv.ErrSyntax"
 rw[MakeChecks.laidMetH_plain _ _ _ (by kernel_rfl)] at h2
 obtain⟨a,s,hv,_⟩:=laid_sentinel (g:=0) (ti:=102) (tp:=235) (te:=237) (ts:=9) h2 (by kernel_rfl) (by kernel_rfl) Tryz.underlying102 BE Tryz.underlying235 Tryz.underlying237 rfl rfl Tryz.underlying9 (by kernel_rfl) (by kernel_rfl)
 exact⟨_,hv,_,_,rfl⟩
theorem uB {W:World} (h:laidMetH Tryz.prog Rows.fnExactRecalculatedRow.laid W) : ∃ a,W.var? Tryz.prog "strconv.ErrRange" = some a ∧ ∃ tp p,a = #[.iface tp p]:=by
 have h2:laidMetH Tryz.prog [("strconv.ErrRange",Rows.laid_strconv_ErrRange)] W:=h.filter fun x=>x.1 == "strconv.ErrRange"
 rw[MakeChecks.laidMetH_plain _ _ _ (by kernel_rfl)] at h2
 obtain⟨a,s,hv,_⟩:=laid_sentinel (g:=1) (ti:=102) (tp:=235) (te:=237) (ts:=9) h2 (by kernel_rfl) (by kernel_rfl) Tryz.underlying102 BE Tryz.underlying235 Tryz.underlying237 rfl rfl Tryz.underlying9 (by kernel_rfl) (by kernel_rfl)
 exact⟨_,hv,_,_,rfl⟩
theorem zy {W:World} (h:laidMetH Tryz.prog Rows.fnExactRecalculatedRow.laid W) : ∃ a,W.var? Tryz.prog "internal/strconv.uint64pow10" = some a∧a=(Lib.pow10Tab.map fun z=>Value.int .u64 z).toArray:=by
 have h2:laidMetH Tryz.prog [("internal/strconv.uint64pow10",Lib.tabData .u64 Lib.pow10Tab)] W:=h.filter fun x=>x.1 == "internal/strconv.uint64pow10"
 rw[MakeChecks.laidMetH_plain _ _ _ (by kernel_rfl)] at h2
 have h3:Lib.TabIs Tryz.prog W "internal/strconv.uint64pow10" .u64 Lib.pow10Tab:=Lib.tabIs_of_head (g:=2) (t:=257) (e:=176) (n:=20) (by kernel_rfl) (by kernel_rfl) Tryz.underlying257 Tryz.underlying176 (by kernel_rfl) (by kernel_rfl) h2
 exact⟨_,h3,rfl⟩
theorem G2 {W:World} (h:laidMetH Tryz.prog Rows.fnExactRecalculatedRow.laid W) (hs:W.ShapedOpen Tryz.prog):eE Tryz.prog vars W (mo [] fun _=>none):=by
 intro p hp
 unfold vars at hp
 rcases List.mem_cons.1 hp with rfl | hp
 ·exact⟨r6 h,fun _ _ hx=>by obtain⟨_,_,hx,_⟩:=hx; cases hx⟩
 rcases List.mem_cons.1 hp with rfl | hp
 ·exact⟨uB h,fun _ _ hx=>by obtain⟨_,_,hx,_⟩:=hx; cases hx⟩
 rcases List.mem_cons.1 hp with rfl | hp
 ·exact⟨zy h,fun _ _ hx=>by obtain⟨_,_,hx,_⟩:=hx; cases hx⟩
 rcases List.mem_cons.1 hp with rfl | hp
 ·exact⟨Ho (g:=7) (by kernel_rfl) (CI hs),fun _ _ hx=>by obtain⟨_,_,hx,_⟩:=hx; cases hx⟩
 cases hp
set_option maxRecDepth 100000 in
theorem lifted (os:Os) (started:os.Started) (H:Type) (enc:TypeId×Value→H) :
  ReturnsInHanded {} Tryz.checked os 4 .any (fun w args=>(Rows.fnExactRecalculatedSpec.pre enc Tryz.prog Tryz.f4 Rows.fnExactRecalculatedRow.domain false w args∧laidMetH Tryz.prog Rows.fnExactRecalculatedRow.laid w)∧sizedMet enc Tryz.prog Tryz.f4 (OpenSpec.ofChange Rows.fnExactRecalculatedSpec) false w args) (Rows.fnExactRecalculatedSpec.post enc Tryz.prog Tryz.f4 false true false false):=by
 refine ki (C:=Tryz.checked) (X:=fun w _=>laidMetH Tryz.prog Rows.fnExactRecalculatedRow.laid w) (fun _ _ _ hh h=>h.of_heap hh) own started (by kernel_rfl) Tryz.func4
  (ChangeSpec.witness_shaped (enc:=enc) (C:=Tryz.checked) (os:=os) (X:=fun w _=>laidMetH Tryz.prog Rows.fnExactRecalculatedRow.laid w) false (World.laidAll Tryz.prog os Rows.fnExactRecalculatedRow.laid) #[.slice none 0 0,.slice none 0 0,.slice none 0 0] 8 (World.laidAll_os _ _ _) (World.shaped_of_ZipB (by kernel_rfl) (by kernel_rfl)) (by kernel_rfl) (by kernel_rfl) (by kernel_rfl) (D7 os _)) ?_
 intro W base args ds gs before hval0 hW _ _ hL hSh _
 have hval : ∀(j:Nat) t v,Tryz.f4.params[j]? = some t→args[j]? = some v→Value.okWide Tryz.prog W .any base t v:=hval0
 have hW':=hW
 obtain⟨p,q,hA0,hV,rfl,hfz,hnd⟩:=hW
 have hA:DataW.TrodAll enc Tryz.prog W 0 (fun _=>true) true Tryz.f4.params.toList args.toList ds p:=hA0
 rw[Tryz.params4] at hA hval
 obtain⟨v0,vs0,d0,ds0,p0,q0,hargs,rfl,rfl,h0,r0⟩:=trodAll_cons hA
 obtain⟨v1,vs1,d1,ds1,p1,q1,rfl,rfl,rfl,h1,r1⟩:=trodAll_cons r0
 obtain⟨v2,vs2,d2,ds2,p2,q2,rfl,rfl,rfl,h2,r2⟩:=trodAll_cons r1
 obtain⟨rfl,rfl,rfl⟩:=trodAll_nil r2
 obtain rfl:args = #[v0,v1,v2]:=by cases args; simp_all
 obtain⟨rfl,rfl⟩:=trodVars_none hV
 have k0:=h0
 have lt0 : ∀ x∈p0,x.block < W.heap.size:=by obtain⟨m,hm⟩:=k0; exact DataW.trod_lt m _ _ _ hm
 obtain⟨y0,m0,e0,z0⟩:=EB (d:=9) (T:=22) (t:=(.slice 69 ap)) (by kernel_rfl) (hval 0 22 v0 rfl rfl) h0
 have k1:=h1
 have lt1 : ∀ x∈p1,x.block < W.heap.size:=by obtain⟨m,hm⟩:=k1; exact DataW.trod_lt m _ _ _ hm
 obtain⟨y1,m1,e1,z1⟩:=EB (d:=9) (T:=33) (t:=(.slice 77 ae)) (by kernel_rfl) (hval 1 33 v1 rfl rfl) h1
 have k2:=h2
 have lt2 : ∀ x∈p2,x.block < W.heap.size:=by obtain⟨m,hm⟩:=k2; exact DataW.trod_lt m _ _ _ hm
 obtain⟨y2,m2,e2,z2⟩:=EB (d:=9) (T:=34) (t:=(.slice 67 ao)) (by kernel_rfl) (hval 2 34 v2 rfl rfl) h2
 clear hA0 hval0
 refine(Hn (P:=Tryz.prog) (E:=E) (Gp:=eE Tryz.prog vars) (I:=iW) (key:=4) eE.stable (by kernel_rfl) Q9 Ki (by kernel_rfl) (rM.ofL (uD m0 m1 m2)) (by kernel_rfl) (by kernel_rfl) (by kernel_rfl) (w:=W) (us:=[v0,v1,v2]) (G2 hL hSh) (.cons (ED e0 z0) (.cons (ED e1 z1) (.cons (ED e2 z2) (.nil))))).mono fun e W' ⟨he,bel⟩ => ?_
 subst he
 exact⟨_,rfl,_,_,_,[],_,[],hW',trodAll_mk1 (shut_bool Tryz.underlying4 _),(trodAll_cons_mk (Below.trod xQ (by kernel_rfl) (of_decide_eq_true (by kernel_rfl)) k0 bel lt0) (trodAll_cons_mk (Below.trod xQ (by kernel_rfl) (of_decide_eq_true (by kernel_rfl)) k1 bel lt1) (trodAll_cons_mk (Below.trod xQ (by kernel_rfl) (of_decide_eq_true (by kernel_rfl)) k2 bel lt2) trodAll_mk0))),rfl,bel.frame _,fun h=>by cases h⟩
theorem Ql:laidOutB Tryz.pinned.checked.prog=true:=by kernel_rfl
theorem Qm:(Rows.fnExactRecalculatedRow.inPlace == Tryz.pinned.checked.prog.inPlace 4)=true:=by kernel_rfl
theorem Qn:(Rows.fnExactRecalculatedRow.unfollowed == Tryz.pinned.checked.prog.unfollowed 4)=true:=by kernel_rfl
theorem Qo:(Rows.fnExactRecalculatedRow.recurses == Tryz.pinned.checked.prog.recurses 4)=true:=by kernel_rfl
theorem Qp:(Rows.fnExactRecalculatedRow.named == Tryz.pinned.checked.prog.varsNamed 4)=true:=by kernel_rfl
theorem Qq:Tryz.pinned.checked.prog.stopsHeard=true:=by kernel_rfl
theorem Qr:Tryz.pinned.checked.prog.mayEnter=true:=by kernel_rfl
theorem Qs:(Rows.fnExactRecalculatedRow.lifted == Tryz.pinned.checked.prog.liftsFinal)=true:=by kernel_rfl
theorem Qt:joinedFacts Tryz.pinned.checked.prog 4 Tryz.f4 Rows.fnExactRecalculatedSpec Rows.fnExactRecalculatedRow=true:=by
 rw[joinedFacts,Ql,Qm,Qn,Qo,Qp,Qq,Qr,Qs]
 kernel_rfl
theorem Ug:Rows.fnExactRecalculatedRow.holds Tryz.pinned (OpenSpec.ofChange Rows.fnExactRecalculatedSpec) :=
 OpenClaim.holds_of_wide 4 Tryz.f4 rfl rfl rfl rfl rfl rfl rfl ⟨rfl,rfl,rfl,rfl,rfl⟩ rfl rfl rfl rfl rfl (by kernel_rfl) Tryz.func4 Qt
  (of_decide_eq_true (by kernel_rfl)) (by unfold Func.isWrapper; first | (rw[if_pos (by decide +kernel)]; kernel_rfl) | (rw[if_neg (by decide +kernel)]; exact⟨rfl,rfl⟩))
  (fun os started H enc _=>lifted os started H enc)
theorem L8:Rows.fnExactRecalculatedRow.wfByText (.ofChange Rows.fnExactRecalculatedSpec)=true:=by kernel_rfl
theorem mainIs:Tryz.pinned.checked.prog.mainIs=some (true, "7c8f48619fa64c1b6c504dce21695357583558f09f1a2aed0fa55bd8e68a3e10".toList):=by kernel_rfl
theorem G3:true=Tryz.pinned.checked.prog.looks []:=by kernel_rfl
theorem Uh:Tryz.pinned.checked.prog.funcs.any Func.goes=false:=by kernel_rfl
theorem L9:false=Rows.fnExactRecalculatedRow.goesBy Tryz.pinned.checked.prog:=HV Uh _
theorem D8:([22,33,34].all fun u => !Tryz.prog.wantsStandIn u)=true:=by kernel_rfl
theorem proved:Rows.FnExactRecalculatedCardSaid :=
 Claim7.holds_tied_plain_at .later [] [.data,.data,.data,.data,.sentinel,.sentinel,.pinned] true (true, "7c8f48619fa64c1b6c504dce21695357583558f09f1a2aed0fa55bd8e68a3e10") true Ug (fun _ h=>by cases h) L8 (fun _ h=>by cases h) fnExactRecalculated_row_tie rfl ⟨rfl,rfl⟩ mainIs rfl
  (fun f fn hf hfn=>by
   obtain rfl:f=4:=Option.some.inj ((show Tryz.prog.funcNamed "loop.example/g00267/laws.FnExactRecalculated" = some 4 by kernel_rfl).symm.trans hf) |>.symm
   obtain rfl:fn=Tryz.f4:=(Option.some.inj (Tryz.func4.symm.trans hfn)).symm
   exact⟨G3,fun j t ht=>by
    rw[Tryz.params4] at ht
    have hm:t∈[22,33,34]:=by simpa using Array.mem_of_getElem? ht
    exact(show Tryz.prog.wantsStandIn t=false by simpa using List.all_eq_true.1 D8 t hm)⟩)
  L9
#print axioms proved
end Go.Proofs.YtnodjiikdgmeaaaGreatDoor.fnExactRecalculated
namespace Go.Proofs.YtnodjiikdgmeaaaGreatDoor
theorem fnExactRecalculated_holds:Rows.FnExactRecalculatedCardSaid:=fnExactRecalculated.proved
end Go.Proofs.YtnodjiikdgmeaaaGreatDoor
