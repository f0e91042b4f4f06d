/- laws.FnCommitted holds: whatever the input, it returns true and the input reads as it did. -/
import Derived.Test.YtfffplonjaigkaaGreatDoorRows
import Derived.Test.YtfffplonjaigkaaGreatDoorChecked
import Derived.Test.YtfffplonjaigkaaGreatDoorZEnv
import Derived.WalkKit
import Derived.ProofKit
import Derived.OpenShut
import Derived.ShutString
import Derived.ChangeOld
import Derived.Below
import Derived.SizedLaws
import Derived.Test.YtfffplonjaigkaaGreatDoorTie
import Derived.Test.YtfffplonjaigkaaGreatDoorCards
import Derived.LaidMore
import Derived.Stop.Joined
import Derived.LaidSub
import Derived.SevenTiedAt
import Derived.Lay
import Derived.Stop.LaidErr
import Derived.Test.YtfffplonjaigkaaGreatDoorZM3
import Derived.Test.YtfffplonjaigkaaGreatDoorZPLCom
namespace Go.Proofs.YtfffplonjaigkaaGreatDoor.fnCommitted
open Go.ChangeShapes Go.WideShapes Go.ChangeAt Go.RowKit Go.Proofs.YtfffplonjaigkaaGreatDoor.Abs
set_option linter.unusedVariables false
theorem own:ownKnob Tryz.prog.godebug=none:=by kernel_rfl
theorem Qm:laidOutB Tryz.prog=true:=by kernel_rfl
theorem O9 (os:Os) (args:Array Value):laidMetH Tryz.prog Rows.fnCommittedRow.laid ((World.laidAll Tryz.prog os Rows.fnCommittedRow.laid).forCall (fun _ _=>0) ⟨#[],args,[]⟩).memory :=
 by rw[MakeChecks.laidMetH_plain _ _ _ (by kernel_rfl)]; exact laidMet_laidAll _ (by kernel_rfl) (by kernel_rfl)
theorem JT : "*" ++ "errors.errorString" = "*errors.errorString" := by decide
theorem NJ (u:TypeId) (h:Tryz.prog.typeName? 3 u=some "*errors.errorString"):u=336:=typeName_ptr_named (nm := "errors.errorString") (by rw[JT]; kernel_rfl) (by kernel_rfl) (by decide) u (by rw[JT]; exact h)
theorem Fa {W:World} (h:laidMetH Tryz.prog Rows.fnCommittedRow.laid W) : ∃ a,W.var? Tryz.prog "strconv.ErrSyntax" = some a ∧ ∃ tp p,a = #[.iface tp p]:=by
 have h2:laidMetH Tryz.prog [("strconv.ErrSyntax",Rows.laid_strconv_ErrSyntax)] W:=h.filter fun x=>x.1 == "strconv.ErrSyntax"
 rw[MakeChecks.laidMetH_plain _ _ _ (by kernel_rfl)] at h2
 obtain⟨a,s,hv,_⟩:=laid_sentinel (g:=1) (ti:=187) (tp:=336) (te:=338) (ts:=9) h2 (by kernel_rfl) (by kernel_rfl) Tryz.underlying187 NJ Tryz.underlying336 Tryz.underlying338 rfl rfl Tryz.underlying9 (by kernel_rfl) (by kernel_rfl)
 exact⟨_,hv,_,_,rfl⟩
theorem HO {W:World} (h:laidMetH Tryz.prog Rows.fnCommittedRow.laid W) : ∃ a,W.var? Tryz.prog "strconv.ErrRange" = some a ∧ ∃ tp p,a = #[.iface tp p]:=by
 have h2:laidMetH Tryz.prog [("strconv.ErrRange",Rows.laid_strconv_ErrRange)] W:=h.filter fun x=>x.1 == "strconv.ErrRange"
 rw[MakeChecks.laidMetH_plain _ _ _ (by kernel_rfl)] at h2
 obtain⟨a,s,hv,_⟩:=laid_sentinel (g:=2) (ti:=187) (tp:=336) (te:=338) (ts:=9) h2 (by kernel_rfl) (by kernel_rfl) Tryz.underlying187 NJ Tryz.underlying336 Tryz.underlying338 rfl rfl Tryz.underlying9 (by kernel_rfl) (by kernel_rfl)
 exact⟨_,hv,_,_,rfl⟩
theorem Lz {W:World} (h:laidMetH Tryz.prog Rows.fnCommittedRow.laid W) : ∃ a,W.var? Tryz.prog "internal/strconv.uint64pow10" = some a∧a=(Lib.pow10Tab.map fun z=>Value.int .u64 z).toArray:=by
 have h2:laidMetH Tryz.prog [("internal/strconv.uint64pow10",Lib.tabData .u64 Lib.pow10Tab)] W:=h.filter fun x=>x.1 == "internal/strconv.uint64pow10"
 rw[MakeChecks.laidMetH_plain _ _ _ (by kernel_rfl)] at h2
 have h3:Lib.TabIs Tryz.prog W "internal/strconv.uint64pow10" .u64 Lib.pow10Tab:=Lib.tabIs_of_head (g:=3) (t:=327) (e:=243) (n:=20) (by kernel_rfl) (by kernel_rfl) Tryz.underlying327 Tryz.underlying243 (by kernel_rfl) (by kernel_rfl) h2
 exact⟨_,h3,rfl⟩
theorem Qn {W:World} (h:laidMetH Tryz.prog Rows.fnCommittedRow.laid W) (hs:W.ShapedOpen Tryz.prog):ec Tryz.prog vars W (iC [] fun _=>none):=by
 intro p hp
 unfold vars at hp
 rcases List.mem_cons.1 hp with rfl | hp
 ·exact⟨Md (g:=0) (by kernel_rfl) (H4 hs),fun _ _ hx=>by obtain⟨_,_,hx,_⟩:=hx; cases hx⟩
 rcases List.mem_cons.1 hp with rfl | hp
 ·exact⟨Fa h,fun _ _ hx=>by obtain⟨_,_,hx,_⟩:=hx; cases hx⟩
 rcases List.mem_cons.1 hp with rfl | hp
 ·exact⟨HO h,fun _ _ hx=>by obtain⟨_,_,hx,_⟩:=hx; cases hx⟩
 rcases List.mem_cons.1 hp with rfl | hp
 ·exact⟨Lz h,fun _ _ hx=>by obtain⟨_,_,hx,_⟩:=hx; cases hx⟩
 cases hp
set_option maxRecDepth 100000 in
theorem lifted (os:Os) (started:os.Started) (H:Type) (enc:TypeId×Value→H) :
  ReturnsInHanded {} Tryz.checked os 6 .any (fun w args=>(Rows.fnCommittedSpec.pre enc Tryz.prog Tryz.f6 Rows.fnCommittedRow.domain false w args∧laidMetH Tryz.prog Rows.fnCommittedRow.laid w)∧sizedMet enc Tryz.prog Tryz.f6 (OpenSpec.ofChange Rows.fnCommittedSpec) false w args) (Rows.fnCommittedSpec.post enc Tryz.prog Tryz.f6 false true false false):=by
 refine oz (C:=Tryz.checked) (X:=fun w _=>laidMetH Tryz.prog Rows.fnCommittedRow.laid w) (fun _ _ _ hh h=>h.of_heap hh) own started (by kernel_rfl) Tryz.func6
  (ChangeSpec.witness_shaped (enc:=enc) (C:=Tryz.checked) (os:=os) (X:=fun w _=>laidMetH Tryz.prog Rows.fnCommittedRow.laid w) false (World.laidAll Tryz.prog os Rows.fnCommittedRow.laid) #[.slice none 0 0] 8 (World.laidAll_os _ _ _) (World.shaped_of_ZipB (by kernel_rfl) (by kernel_rfl)) (by kernel_rfl) (by kernel_rfl) (by kernel_rfl) (O9 os _)) ?_
 intro W base args ds gs before hval0 hW _ _ hL hSh _
 have hval : ∀(j:Nat) t v,Tryz.f6.params[j]? = some t→args[j]? = some v→Value.okWide Tryz.prog W .any base t v:=hval0
 have hW':=hW
 obtain⟨p,q,hA0,hV,rfl,hfz,hnd⟩:=hW
 have hA:DataW.TrodAll enc Tryz.prog W 0 (fun _=>true) true Tryz.f6.params.toList args.toList ds p:=hA0
 rw[Tryz.params6] at hA hval
 obtain⟨v0,vs0,d0,ds0,p0,q0,hargs,rfl,rfl,h0,r0⟩:=trodAll_cons hA
 obtain⟨rfl,rfl,rfl⟩:=trodAll_nil r0
 obtain rfl:args = #[v0]:=by cases args; simp_all
 obtain⟨rfl,rfl⟩:=trodVars_none hV
 have k0:=h0
 have lt0 : ∀ x∈p0,x.block < W.heap.size:=by obtain⟨m,hm⟩:=k0; exact DataW.trod_lt m _ _ _ hm
 obtain⟨y0,m0,e0,z0⟩:=QD (d:=9) (T:=35) (t:=(.slice 5 (.int .u8))) (by kernel_rfl) (hval 0 35 v0 rfl rfl) h0
 clear hA0 hval0
 refine(Mc (P:=Tryz.prog) (E:=E) (Gp:=ec Tryz.prog vars) (I:=gK) (key:=6) ec.stable (by kernel_rfl) QG Oo (by kernel_rfl) (pT.ofL (Cj m0)) (by kernel_rfl) (by kernel_rfl) (by kernel_rfl) (w:=W) (us:=[v0]) (Qn hL hSh) (.cons (QE e0 z0) (.nil))).mono fun e W' ⟨he,bel⟩ => ?_
 subst he
 exact⟨_,rfl,_,_,_,[],_,[],hW',trodAll_mk1 (shut_bool Tryz.underlying4 _),(trodAll_cons_mk (Below.trod Qm (by kernel_rfl) (of_decide_eq_true (by kernel_rfl)) k0 bel lt0) trodAll_mk0),rfl,bel.frame _,fun h=>by cases h⟩
theorem RZ:laidOutB Tryz.pinned.checked.prog=true:=by kernel_rfl
theorem R0:(Rows.fnCommittedRow.inPlace == Tryz.pinned.checked.prog.inPlace 6)=true:=by kernel_rfl
theorem R3:(Rows.fnCommittedRow.unfollowed == Tryz.pinned.checked.prog.unfollowed 6)=true:=by kernel_rfl
theorem R4:(Rows.fnCommittedRow.recurses == Tryz.pinned.checked.prog.recurses 6)=true:=by kernel_rfl
theorem R5:(Rows.fnCommittedRow.named == Tryz.pinned.checked.prog.varsNamed 6)=true:=by kernel_rfl
theorem R6:Tryz.pinned.checked.prog.stopsHeard=true:=by kernel_rfl
theorem R7:Tryz.pinned.checked.prog.mayEnter=true:=by kernel_rfl
theorem R8:(Rows.fnCommittedRow.lifted == Tryz.pinned.checked.prog.liftsFinal)=true:=by kernel_rfl
theorem R9:joinedFacts Tryz.pinned.checked.prog 6 Tryz.f6 Rows.fnCommittedSpec Rows.fnCommittedRow=true:=by
 rw[joinedFacts,RZ,R0,R3,R4,R5,R6,R7,R8]
 kernel_rfl
theorem Sm:Rows.fnCommittedRow.holds Tryz.pinned (OpenSpec.ofChange Rows.fnCommittedSpec) :=
 OpenClaim.holds_of_wide 6 Tryz.f6 rfl rfl rfl rfl rfl rfl rfl ⟨rfl,rfl,rfl,rfl,rfl⟩ rfl rfl rfl rfl rfl (by kernel_rfl) Tryz.func6 R9
  (of_decide_eq_true (by kernel_rfl)) (by unfold Func.isWrapper; first | (rw[if_pos (by decide +kernel)]; kernel_rfl) | (rw[if_neg (by decide +kernel)]; exact⟨rfl,rfl⟩))
  (fun os started H enc _=>lifted os started H enc)
theorem Ry:Rows.fnCommittedRow.wfByText (.ofChange Rows.fnCommittedSpec)=true:=by kernel_rfl
theorem mainIs:Tryz.pinned.checked.prog.mainIs=some (true, "3df18ce65db2ec6abd064d86937202fad6f2fdd72f98117125e5f68d33591263".toList):=by kernel_rfl
theorem Qo:true=Tryz.pinned.checked.prog.looks []:=by kernel_rfl
theorem Sn:Tryz.pinned.checked.prog.funcs.any Func.goes=false:=by kernel_rfl
theorem Rz:false=Rows.fnCommittedRow.goesBy Tryz.pinned.checked.prog:=Mw Sn _
theorem Pa:([35].all fun u => !Tryz.prog.wantsStandIn u)=true:=by kernel_rfl
theorem proved:Rows.FnCommittedCardSaid :=
 Claim7.holds_tied_plain_at .later [] [.data,.data,.data,.data,.sentinel,.sentinel,.pinned] true (true, "3df18ce65db2ec6abd064d86937202fad6f2fdd72f98117125e5f68d33591263") true Sm (fun _ h=>by cases h) Ry (fun _ h=>by cases h) fnCommitted_row_tie rfl ⟨rfl,rfl⟩ mainIs rfl
  (fun f fn hf hfn=>by
   obtain rfl:f=6:=Option.some.inj ((show Tryz.prog.funcNamed "loop.example/g00267/laws.FnCommitted" = some 6 by kernel_rfl).symm.trans hf) |>.symm
   obtain rfl:fn=Tryz.f6:=(Option.some.inj (Tryz.func6.symm.trans hfn)).symm
   exact⟨Qo,fun j t ht=>by
    rw[Tryz.params6] at ht
    have hm:t∈[35]:=by simpa using Array.mem_of_getElem? ht
    exact(show Tryz.prog.wantsStandIn t=false by simpa using List.all_eq_true.1 Pa t hm)⟩)
  Rz
#print axioms proved
end Go.Proofs.YtfffplonjaigkaaGreatDoor.fnCommitted
namespace Go.Proofs.YtfffplonjaigkaaGreatDoor
theorem fnCommitted_holds:Rows.FnCommittedCardSaid:=fnCommitted.proved
end Go.Proofs.YtfffplonjaigkaaGreatDoor
