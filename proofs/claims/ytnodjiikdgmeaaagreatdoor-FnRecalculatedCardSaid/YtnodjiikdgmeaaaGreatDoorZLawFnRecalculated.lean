/- laws.FnRecalculated holds: whatever the input, it returns true and the input reads as it did. -/
import Derived.Test.YtnodjiikdgmeaaaGreatDoorRows
import Derived.Test.YtnodjiikdgmeaaaGreatDoorChecked
import Derived.Test.YtnodjiikdgmeaaaGreatDoorZEnv
import Derived.WalkKit
import Derived.ProofKit
import Derived.OpenShut
import Derived.ShutString
import Derived.ChangeOld
import Derived.Below
import Derived.SizedLaws
import Derived.Test.YtnodjiikdgmeaaaGreatDoorTie
import Derived.Test.YtnodjiikdgmeaaaGreatDoorCards
import Derived.LaidMore
import Derived.Stop.Joined
import Derived.LaidSub
import Derived.SevenTiedAt
import Derived.Lay
import Derived.Stop.LaidErr
import Derived.Test.YtnodjiikdgmeaaaGreatDoorZM2
import Derived.Test.YtnodjiikdgmeaaaGreatDoorZPLHold
namespace Go.Proofs.YtnodjiikdgmeaaaGreatDoor.fnRecalculated
open Go.ChangeShapes Go.WideShapes Go.ChangeAt Go.RowKit Go.Proofs.YtnodjiikdgmeaaaGreatDoor.Abs
set_option linter.unusedVariables false
theorem own:ownKnob Tryz.prog.godebug=none:=by kernel_rfl
theorem IP:laidOutB Tryz.prog=true:=by kernel_rfl
theorem FM (os:Os) (args:Array Value):laidMetH Tryz.prog Rows.fnRecalculatedRow.laid ((World.laidAll Tryz.prog os Rows.fnRecalculatedRow.laid).forCall (fun _ _=>0) ⟨#[],args,[]⟩).memory :=
 by rw[MakeChecks.laidMetH_plain _ _ _ (by kernel_rfl)]; exact laidMet_laidAll _ (by kernel_rfl) (by kernel_rfl)
theorem zp : "*" ++ "errors.errorString" = "*errors.errorString" := by decide
theorem CV (u:TypeId) (h:Tryz.prog.typeName? 3 u=some "*errors.errorString"):u=235:=typeName_ptr_named (nm := "errors.errorString") (by rw[zp]; kernel_rfl) (by kernel_rfl) (by decide) u (by rw[zp]; exact h)
theorem tz {W:World} (h:laidMetH Tryz.prog Rows.fnRecalculatedRow.laid W) : ∃ a,W.var? Tryz.prog "strconv.ErrSyntax" = some a ∧ ∃ tp p,a = #[.iface tp p]:=by
 have h2:laidMetH Tryz.prog [("strconv.ErrSyntax",Rows.laid_strconv_ErrSyntax)] W:=h.filter fun x=>x.1 == "strconv.ErrSyntax"
 rw[MakeChecks.laidMetH_plain _ _ _ (by kernel_rfl)] at h2
 obtain⟨a,s,hv,_⟩:=laid_sentinel (g:=0) (ti:=102) (tp:=235) (te:=237) (ts:=9) h2 (by kernel_rfl) (by kernel_rfl) Tryz.underlying102 CV Tryz.underlying235 Tryz.underlying237 rfl rfl Tryz.underlying9 (by kernel_rfl) (by kernel_rfl)
 exact⟨_,hv,_,_,rfl⟩
theorem vW {W:World} (h:laidMetH Tryz.prog Rows.fnRecalculatedRow.laid W) : ∃ a,W.var? Tryz.prog "strconv.ErrRange" = some a ∧ ∃ tp p,a = #[.iface tp p]:=by
 have h2:laidMetH Tryz.prog [("strconv.ErrRange",Rows.laid_strconv_ErrRange)] W:=h.filter fun x=>x.1 == "strconv.ErrRange"
 rw[MakeChecks.laidMetH_plain _ _ _ (by kernel_rfl)] at h2
 obtain⟨a,s,hv,_⟩:=laid_sentinel (g:=1) (ti:=102) (tp:=235) (te:=237) (ts:=9) h2 (by kernel_rfl) (by kernel_rfl) Tryz.underlying102 CV Tryz.underlying235 Tryz.underlying237 rfl rfl Tryz.underlying9 (by kernel_rfl) (by kernel_rfl)
 exact⟨_,hv,_,_,rfl⟩
theorem AQ {W:World} (h:laidMetH Tryz.prog Rows.fnRecalculatedRow.laid W) : ∃ a,W.var? Tryz.prog "internal/strconv.uint64pow10" = some a∧a=(Lib.pow10Tab.map fun z=>Value.int .u64 z).toArray:=by
 have h2:laidMetH Tryz.prog [("internal/strconv.uint64pow10",Lib.tabData .u64 Lib.pow10Tab)] W:=h.filter fun x=>x.1 == "internal/strconv.uint64pow10"
 rw[MakeChecks.laidMetH_plain _ _ _ (by kernel_rfl)] at h2
 have h3:Lib.TabIs Tryz.prog W "internal/strconv.uint64pow10" .u64 Lib.pow10Tab:=Lib.tabIs_of_head (g:=2) (t:=257) (e:=176) (n:=20) (by kernel_rfl) (by kernel_rfl) Tryz.underlying257 Tryz.underlying176 (by kernel_rfl) (by kernel_rfl) h2
 exact⟨_,h3,rfl⟩
theorem IQ {W:World} (h:laidMetH Tryz.prog Rows.fnRecalculatedRow.laid W) (hs:W.ShapedOpen Tryz.prog):fo Tryz.prog vars W (nH [] fun _=>none):=by
 intro p hp
 unfold vars at hp
 rcases List.mem_cons.1 hp with rfl | hp
 ·exact⟨tz h,fun _ _ hx=>by obtain⟨_,_,hx,_⟩:=hx; cases hx⟩
 rcases List.mem_cons.1 hp with rfl | hp
 ·exact⟨vW h,fun _ _ hx=>by obtain⟨_,_,hx,_⟩:=hx; cases hx⟩
 rcases List.mem_cons.1 hp with rfl | hp
 ·exact⟨AQ h,fun _ _ hx=>by obtain⟨_,_,hx,_⟩:=hx; cases hx⟩
 rcases List.mem_cons.1 hp with rfl | hp
 ·exact⟨Jg (g:=7) (by kernel_rfl) (El hs),fun _ _ hx=>by obtain⟨_,_,hx,_⟩:=hx; cases hx⟩
 cases hp
set_option maxRecDepth 100000 in
theorem lifted (os:Os) (started:os.Started) (H:Type) (enc:TypeId×Value→H) :
  ReturnsInHanded {} Tryz.checked os 6 .any (fun w args=>(Rows.fnRecalculatedSpec.pre enc Tryz.prog Tryz.f6 Rows.fnRecalculatedRow.domain false w args∧laidMetH Tryz.prog Rows.fnRecalculatedRow.laid w)∧sizedMet enc Tryz.prog Tryz.f6 (OpenSpec.ofChange Rows.fnRecalculatedSpec) false w args) (Rows.fnRecalculatedSpec.post enc Tryz.prog Tryz.f6 false true false false):=by
 refine lu (C:=Tryz.checked) (X:=fun w _=>laidMetH Tryz.prog Rows.fnRecalculatedRow.laid w) (fun _ _ _ hh h=>h.of_heap hh) own started (by kernel_rfl) Tryz.func6
  (ChangeSpec.witness_shaped (enc:=enc) (C:=Tryz.checked) (os:=os) (X:=fun w _=>laidMetH Tryz.prog Rows.fnRecalculatedRow.laid w) false (World.laidAll Tryz.prog os Rows.fnRecalculatedRow.laid) #[.slice none 0 0] 8 (World.laidAll_os _ _ _) (World.shaped_of_ZipB (by kernel_rfl) (by kernel_rfl)) (by kernel_rfl) (by kernel_rfl) (by kernel_rfl) (FM os _)) ?_
 intro W base args ds gs before hval0 hW _ _ hL hSh _
 have hval : ∀(j:Nat) t v,Tryz.f6.params[j]? = some t→args[j]? = some v→Value.okWide Tryz.prog W .any base t v:=hval0
 have hW':=hW
 obtain⟨p,q,hA0,hV,rfl,hfz,hnd⟩:=hW
 have hA:DataW.TrodAll enc Tryz.prog W 0 (fun _=>true) true Tryz.f6.params.toList args.toList ds p:=hA0
 rw[Tryz.params6] at hA hval
 obtain⟨v0,vs0,d0,ds0,p0,q0,hargs,rfl,rfl,h0,r0⟩:=trodAll_cons hA
 obtain⟨rfl,rfl,rfl⟩:=trodAll_nil r0
 obtain rfl:args = #[v0]:=by cases args; simp_all
 obtain⟨rfl,rfl⟩:=trodVars_none hV
 have k0:=h0
 have lt0 : ∀ x∈p0,x.block < W.heap.size:=by obtain⟨m,hm⟩:=k0; exact DataW.trod_lt m _ _ _ hm
 obtain⟨y0,m0,e0,z0⟩:=Tf (d:=9) (T:=44) (t:=(.slice 5 (.int .u8))) (by kernel_rfl) (hval 0 44 v0 rfl rfl) h0
 clear hA0 hval0
 refine(Jf (P:=Tryz.prog) (E:=E) (Gp:=fo Tryz.prog vars) (I:=ic) (key:=6) fo.stable (by kernel_rfl) To Mb (by kernel_rfl) (th.ofL (CU m0)) (by kernel_rfl) (by kernel_rfl) (by kernel_rfl) (w:=W) (us:=[v0]) (IQ hL hSh) (.cons (Th e0 z0) (.nil))).mono fun e W' ⟨he,bel⟩ => ?_
 subst he
 exact⟨_,rfl,_,_,_,[],_,[],hW',trodAll_mk1 (shut_bool Tryz.underlying4 _),(trodAll_cons_mk (Below.trod IP (by kernel_rfl) (of_decide_eq_true (by kernel_rfl)) k0 bel lt0) trodAll_mk0),rfl,bel.frame _,fun h=>by cases h⟩
theorem Sw:laidOutB Tryz.pinned.checked.prog=true:=by kernel_rfl
theorem Sx:(Rows.fnRecalculatedRow.inPlace == Tryz.pinned.checked.prog.inPlace 6)=true:=by kernel_rfl
theorem Sy:(Rows.fnRecalculatedRow.unfollowed == Tryz.pinned.checked.prog.unfollowed 6)=true:=by kernel_rfl
theorem Sz:(Rows.fnRecalculatedRow.recurses == Tryz.pinned.checked.prog.recurses 6)=true:=by kernel_rfl
theorem SA:(Rows.fnRecalculatedRow.named == Tryz.pinned.checked.prog.varsNamed 6)=true:=by kernel_rfl
theorem SB:Tryz.pinned.checked.prog.stopsHeard=true:=by kernel_rfl
theorem SC:Tryz.pinned.checked.prog.mayEnter=true:=by kernel_rfl
theorem SD:(Rows.fnRecalculatedRow.lifted == Tryz.pinned.checked.prog.liftsFinal)=true:=by kernel_rfl
theorem SE:joinedFacts Tryz.pinned.checked.prog 6 Tryz.f6 Rows.fnRecalculatedSpec Rows.fnRecalculatedRow=true:=by
 rw[joinedFacts,Sw,Sx,Sy,Sz,SA,SB,SC,SD]
 kernel_rfl
theorem WJ:Rows.fnRecalculatedRow.holds Tryz.pinned (OpenSpec.ofChange Rows.fnRecalculatedSpec) :=
 OpenClaim.holds_of_wide 6 Tryz.f6 rfl rfl rfl rfl rfl rfl rfl ⟨rfl,rfl,rfl,rfl,rfl⟩ rfl rfl rfl rfl rfl (by kernel_rfl) Tryz.func6 SE
  (of_decide_eq_true (by kernel_rfl)) (by unfold Func.isWrapper; first | (rw[if_pos (by decide +kernel)]; kernel_rfl) | (rw[if_neg (by decide +kernel)]; exact⟨rfl,rfl⟩))
  (fun os started H enc _=>lifted os started H enc)
theorem N3:Rows.fnRecalculatedRow.wfByText (.ofChange Rows.fnRecalculatedSpec)=true:=by kernel_rfl
theorem mainIs:Tryz.pinned.checked.prog.mainIs=some (true, "7c8f48619fa64c1b6c504dce21695357583558f09f1a2aed0fa55bd8e68a3e10".toList):=by kernel_rfl
theorem IR:true=Tryz.pinned.checked.prog.looks []:=by kernel_rfl
theorem WK:Tryz.pinned.checked.prog.funcs.any Func.goes=false:=by kernel_rfl
theorem N4:false=Rows.fnRecalculatedRow.goesBy Tryz.pinned.checked.prog:=JK WK _
theorem FN:([44].all fun u => !Tryz.prog.wantsStandIn u)=true:=by kernel_rfl
theorem proved:Rows.FnRecalculatedCardSaid :=
 Claim7.holds_tied_plain_at .later [] [.data,.data,.data,.data,.sentinel,.sentinel,.pinned] true (true, "7c8f48619fa64c1b6c504dce21695357583558f09f1a2aed0fa55bd8e68a3e10") true WJ (fun _ h=>by cases h) N3 (fun _ h=>by cases h) fnRecalculated_row_tie rfl ⟨rfl,rfl⟩ mainIs rfl
  (fun f fn hf hfn=>by
   obtain rfl:f=6:=Option.some.inj ((show Tryz.prog.funcNamed "loop.example/g00267/laws.FnRecalculated" = some 6 by kernel_rfl).symm.trans hf) |>.symm
   obtain rfl:fn=Tryz.f6:=(Option.some.inj (Tryz.func6.symm.trans hfn)).symm
   exact⟨IR,fun j t ht=>by
    rw[Tryz.params6] at ht
    have hm:t∈[44]:=by simpa using Array.mem_of_getElem? ht
    exact(show Tryz.prog.wantsStandIn t=false by simpa using List.all_eq_true.1 FN t hm)⟩)
  N4
#print axioms proved
end Go.Proofs.YtnodjiikdgmeaaaGreatDoor.fnRecalculated
namespace Go.Proofs.YtnodjiikdgmeaaaGreatDoor
theorem fnRecalculated_holds:Rows.FnRecalculatedCardSaid:=fnRecalculated.proved
end Go.Proofs.YtnodjiikdgmeaaaGreatDoor
