/- laws.FnLca holds: whatever the input, it returns true and the input reads as it did. -/
import Derived.Test.YtfffplonjaigkaaGreatDoorRows
import Derived.Test.YtfffplonjaigkaaGreatDoorChecked
import Derived.Test.YtfffplonjaigkaaGreatDoorZEnv
import Derived.WalkKit
import Derived.ProofKit
import Derived.OpenShut
import Derived.ShutString
import Derived.ChangeOld
import Derived.Below
import Derived.SizedLaws
import Derived.Test.YtfffplonjaigkaaGreatDoorTie
import Derived.Test.YtfffplonjaigkaaGreatDoorCards
import Derived.LaidMore
import Derived.Stop.Joined
import Derived.LaidSub
import Derived.SevenTiedAt
import Derived.Lay
import Derived.Stop.LaidErr
import Derived.Test.YtfffplonjaigkaaGreatDoorZM2
import Derived.Test.YtfffplonjaigkaaGreatDoorZPLLca
namespace Go.Proofs.YtfffplonjaigkaaGreatDoor.fnLca
open Go.ChangeShapes Go.WideShapes Go.ChangeAt Go.RowKit Go.Proofs.YtfffplonjaigkaaGreatDoor.Abs
set_option linter.unusedVariables false
theorem own:ownKnob Tryz.prog.godebug=none:=by kernel_rfl
theorem Nt:laidOutB Tryz.prog=true:=by kernel_rfl
theorem Mf (os:Os) (args:Array Value):laidMetH Tryz.prog Rows.fnLcaRow.laid ((World.laidAll Tryz.prog os Rows.fnLcaRow.laid).forCall (fun _ _=>0) ⟨#[],args,[]⟩).memory :=
 by rw[MakeChecks.laidMetH_plain _ _ _ (by kernel_rfl)]; exact laidMet_laidAll _ (by kernel_rfl) (by kernel_rfl)
theorem Hg : "*" ++ "errors.errorString" = "*errors.errorString" := by decide
theorem KV (u:TypeId) (h:Tryz.prog.typeName? 3 u=some "*errors.errorString"):u=336:=typeName_ptr_named (nm := "errors.errorString") (by rw[Hg]; kernel_rfl) (by kernel_rfl) (by decide) u (by rw[Hg]; exact h)
theorem CM {W:World} (h:laidMetH Tryz.prog Rows.fnLcaRow.laid W) : ∃ a,W.var? Tryz.prog "strconv.ErrSyntax" = some a ∧ ∃ tp p,a = #[.iface tp p]:=by
 have h2:laidMetH Tryz.prog [("strconv.ErrSyntax",Rows.laid_strconv_ErrSyntax)] W:=h.filter fun x=>x.1 == "strconv.ErrSyntax"
 rw[MakeChecks.laidMetH_plain _ _ _ (by kernel_rfl)] at h2
 obtain⟨a,s,hv,_⟩:=laid_sentinel (g:=1) (ti:=187) (tp:=336) (te:=338) (ts:=9) h2 (by kernel_rfl) (by kernel_rfl) Tryz.underlying187 KV Tryz.underlying336 Tryz.underlying338 rfl rfl Tryz.underlying9 (by kernel_rfl) (by kernel_rfl)
 exact⟨_,hv,_,_,rfl⟩
theorem Fp {W:World} (h:laidMetH Tryz.prog Rows.fnLcaRow.laid W) : ∃ a,W.var? Tryz.prog "strconv.ErrRange" = some a ∧ ∃ tp p,a = #[.iface tp p]:=by
 have h2:laidMetH Tryz.prog [("strconv.ErrRange",Rows.laid_strconv_ErrRange)] W:=h.filter fun x=>x.1 == "strconv.ErrRange"
 rw[MakeChecks.laidMetH_plain _ _ _ (by kernel_rfl)] at h2
 obtain⟨a,s,hv,_⟩:=laid_sentinel (g:=2) (ti:=187) (tp:=336) (te:=338) (ts:=9) h2 (by kernel_rfl) (by kernel_rfl) Tryz.underlying187 KV Tryz.underlying336 Tryz.underlying338 rfl rfl Tryz.underlying9 (by kernel_rfl) (by kernel_rfl)
 exact⟨_,hv,_,_,rfl⟩
theorem IX {W:World} (h:laidMetH Tryz.prog Rows.fnLcaRow.laid W) : ∃ a,W.var? Tryz.prog "internal/strconv.uint64pow10" = some a∧a=(Lib.pow10Tab.map fun z=>Value.int .u64 z).toArray:=by
 have h2:laidMetH Tryz.prog [("internal/strconv.uint64pow10",Lib.tabData .u64 Lib.pow10Tab)] W:=h.filter fun x=>x.1 == "internal/strconv.uint64pow10"
 rw[MakeChecks.laidMetH_plain _ _ _ (by kernel_rfl)] at h2
 have h3:Lib.TabIs Tryz.prog W "internal/strconv.uint64pow10" .u64 Lib.pow10Tab:=Lib.tabIs_of_head (g:=3) (t:=327) (e:=243) (n:=20) (by kernel_rfl) (by kernel_rfl) Tryz.underlying327 Tryz.underlying243 (by kernel_rfl) (by kernel_rfl) h2
 exact⟨_,h3,rfl⟩
theorem Nu {W:World} (h:laidMetH Tryz.prog Rows.fnLcaRow.laid W) (hs:W.ShapedOpen Tryz.prog):dL Tryz.prog vars W (ju [] fun _=>none):=by
 intro p hp
 unfold vars at hp
 rcases List.mem_cons.1 hp with rfl | hp
 ·exact⟨Jz (g:=0) (by kernel_rfl) (FG hs),fun _ _ hx=>by obtain⟨_,_,hx,_⟩:=hx; cases hx⟩
 rcases List.mem_cons.1 hp with rfl | hp
 ·exact⟨CM h,fun _ _ hx=>by obtain⟨_,_,hx,_⟩:=hx; cases hx⟩
 rcases List.mem_cons.1 hp with rfl | hp
 ·exact⟨Fp h,fun _ _ hx=>by obtain⟨_,_,hx,_⟩:=hx; cases hx⟩
 rcases List.mem_cons.1 hp with rfl | hp
 ·exact⟨IX h,fun _ _ hx=>by obtain⟨_,_,hx,_⟩:=hx; cases hx⟩
 cases hp
set_option maxRecDepth 100000 in
theorem lifted (os:Os) (started:os.Started) (H:Type) (enc:TypeId×Value→H) :
  ReturnsInHanded {} Tryz.checked os 4 .any (fun w args=>(Rows.fnLcaSpec.pre enc Tryz.prog Tryz.f4 Rows.fnLcaRow.domain false w args∧laidMetH Tryz.prog Rows.fnLcaRow.laid w)∧sizedMet enc Tryz.prog Tryz.f4 (OpenSpec.ofChange Rows.fnLcaSpec) false w args) (Rows.fnLcaSpec.post enc Tryz.prog Tryz.f4 false true false false):=by
 refine nf (C:=Tryz.checked) (X:=fun w _=>laidMetH Tryz.prog Rows.fnLcaRow.laid w) (fun _ _ _ hh h=>h.of_heap hh) own started (by kernel_rfl) Tryz.func4
  (ChangeSpec.witness_shaped (enc:=enc) (C:=Tryz.checked) (os:=os) (X:=fun w _=>laidMetH Tryz.prog Rows.fnLcaRow.laid w) false (World.laidAll Tryz.prog os Rows.fnLcaRow.laid) #[.slice none 0 0] 8 (World.laidAll_os _ _ _) (World.shaped_of_ZipB (by kernel_rfl) (by kernel_rfl)) (by kernel_rfl) (by kernel_rfl) (by kernel_rfl) (Mf os _)) ?_
 intro W base args ds gs before hval0 hW _ _ hL hSh _
 have hval : ∀(j:Nat) t v,Tryz.f4.params[j]? = some t→args[j]? = some v→Value.okWide Tryz.prog W .any base t v:=hval0
 have hW':=hW
 obtain⟨p,q,hA0,hV,rfl,hfz,hnd⟩:=hW
 have hA:DataW.TrodAll enc Tryz.prog W 0 (fun _=>true) true Tryz.f4.params.toList args.toList ds p:=hA0
 rw[Tryz.params4] at hA hval
 obtain⟨v0,vs0,d0,ds0,p0,q0,hargs,rfl,rfl,h0,r0⟩:=trodAll_cons hA
 obtain⟨rfl,rfl,rfl⟩:=trodAll_nil r0
 obtain rfl:args = #[v0]:=by cases args; simp_all
 obtain⟨rfl,rfl⟩:=trodVars_none hV
 have k0:=h0
 have lt0 : ∀ x∈p0,x.block < W.heap.size:=by obtain⟨m,hm⟩:=k0; exact DataW.trod_lt m _ _ _ hm
 obtain⟨y0,m0,e0,z0⟩:=NK (d:=9) (T:=35) (t:=(.slice 5 (.int .u8))) (by kernel_rfl) (hval 0 35 v0 rfl rfl) h0
 clear hA0 hval0
 refine(Jy (P:=Tryz.prog) (E:=E) (Gp:=dL Tryz.prog vars) (I:=sD) (key:=4) dL.stable (by kernel_rfl) NN LB (by kernel_rfl) (oD.ofL (KU m0)) (by kernel_rfl) (by kernel_rfl) (by kernel_rfl) (w:=W) (us:=[v0]) (Nu hL hSh) (.cons (NL e0 z0) (.nil))).mono fun e W' ⟨he,bel⟩ => ?_
 subst he
 exact⟨_,rfl,_,_,_,[],_,[],hW',trodAll_mk1 (shut_bool Tryz.underlying4 _),(trodAll_cons_mk (Below.trod Nt (by kernel_rfl) (of_decide_eq_true (by kernel_rfl)) k0 bel lt0) trodAll_mk0),rfl,bel.frame _,fun h=>by cases h⟩
theorem OY:laidOutB Tryz.pinned.checked.prog=true:=by kernel_rfl
theorem OZ:(Rows.fnLcaRow.inPlace == Tryz.pinned.checked.prog.inPlace 4)=true:=by kernel_rfl
theorem O0:(Rows.fnLcaRow.unfollowed == Tryz.pinned.checked.prog.unfollowed 4)=true:=by kernel_rfl
theorem O1:(Rows.fnLcaRow.recurses == Tryz.pinned.checked.prog.recurses 4)=true:=by kernel_rfl
theorem O2:(Rows.fnLcaRow.named == Tryz.pinned.checked.prog.varsNamed 4)=true:=by kernel_rfl
theorem O3:Tryz.pinned.checked.prog.stopsHeard=true:=by kernel_rfl
theorem O4:Tryz.pinned.checked.prog.mayEnter=true:=by kernel_rfl
theorem O5:(Rows.fnLcaRow.lifted == Tryz.pinned.checked.prog.liftsFinal)=true:=by kernel_rfl
theorem O6:joinedFacts Tryz.pinned.checked.prog 4 Tryz.f4 Rows.fnLcaSpec Rows.fnLcaRow=true:=by
 rw[joinedFacts,OY,OZ,O0,O1,O2,O3,O4,O5]
 kernel_rfl
theorem Pf:Rows.fnLcaRow.holds Tryz.pinned (OpenSpec.ofChange Rows.fnLcaSpec) :=
 OpenClaim.holds_of_wide 4 Tryz.f4 rfl rfl rfl rfl rfl rfl rfl ⟨rfl,rfl,rfl,rfl,rfl⟩ rfl rfl rfl rfl rfl (by kernel_rfl) Tryz.func4 O6
  (of_decide_eq_true (by kernel_rfl)) (by unfold Func.isWrapper; first | (rw[if_pos (by decide +kernel)]; kernel_rfl) | (rw[if_neg (by decide +kernel)]; exact⟨rfl,rfl⟩))
  (fun os started H enc _=>lifted os started H enc)
theorem OC:Rows.fnLcaRow.wfByText (.ofChange Rows.fnLcaSpec)=true:=by kernel_rfl
theorem mainIs:Tryz.pinned.checked.prog.mainIs=some (true, "3df18ce65db2ec6abd064d86937202fad6f2fdd72f98117125e5f68d33591263".toList):=by kernel_rfl
theorem Nv:true=Tryz.pinned.checked.prog.looks []:=by kernel_rfl
theorem Pg:Tryz.pinned.checked.prog.funcs.any Func.goes=false:=by kernel_rfl
theorem OD:false=Rows.fnLcaRow.goesBy Tryz.pinned.checked.prog:=JQ Pg _
theorem Mg:([35].all fun u => !Tryz.prog.wantsStandIn u)=true:=by kernel_rfl
theorem proved:Rows.FnLcaCardSaid :=
 Claim7.holds_tied_plain_at .later [] [.data,.data,.data,.data,.sentinel,.sentinel,.pinned] true (true, "3df18ce65db2ec6abd064d86937202fad6f2fdd72f98117125e5f68d33591263") true Pf (fun _ h=>by cases h) OC (fun _ h=>by cases h) fnLca_row_tie rfl ⟨rfl,rfl⟩ mainIs rfl
  (fun f fn hf hfn=>by
   obtain rfl:f=4:=Option.some.inj ((show Tryz.prog.funcNamed "loop.example/g00267/laws.FnLca" = some 4 by kernel_rfl).symm.trans hf) |>.symm
   obtain rfl:fn=Tryz.f4:=(Option.some.inj (Tryz.func4.symm.trans hfn)).symm
   exact⟨Nv,fun j t ht=>by
    rw[Tryz.params4] at ht
    have hm:t∈[35]:=by simpa using Array.mem_of_getElem? ht
    exact(show Tryz.prog.wantsStandIn t=false by simpa using List.all_eq_true.1 Mg t hm)⟩)
  OD
#print axioms proved
end Go.Proofs.YtfffplonjaigkaaGreatDoor.fnLca
namespace Go.Proofs.YtfffplonjaigkaaGreatDoor
theorem fnLca_holds:Rows.FnLcaCardSaid:=fnLca.proved
end Go.Proofs.YtfffplonjaigkaaGreatDoor
