/- laws.FnExactLca holds: whatever the input, it returns true and the input reads as it did. -/
import Derived.Test.YtfffplonjaigkaaGreatDoorRows
import Derived.Test.YtfffplonjaigkaaGreatDoorChecked
import Derived.Test.YtfffplonjaigkaaGreatDoorZEnv
import Derived.WalkKit
import Derived.ProofKit
import Derived.OpenShut
import Derived.ShutString
import Derived.ChangeOld
import Derived.Below
import Derived.SizedLaws
import Derived.Test.YtfffplonjaigkaaGreatDoorTie
import Derived.Test.YtfffplonjaigkaaGreatDoorCards
import Derived.LaidMore
import Derived.Stop.Joined
import Derived.LaidSub
import Derived.SevenTiedAt
import Derived.Lay
import Derived.Stop.LaidErr
import Derived.Test.YtfffplonjaigkaaGreatDoorZM2
import Derived.Test.YtfffplonjaigkaaGreatDoorZPLXLca
namespace Go.Proofs.YtfffplonjaigkaaGreatDoor.fnExactLca
open Go.ChangeShapes Go.WideShapes Go.ChangeAt Go.RowKit Go.Proofs.YtfffplonjaigkaaGreatDoor.Abs
set_option linter.unusedVariables false
theorem own:ownKnob Tryz.prog.godebug=none:=by kernel_rfl
theorem zf:laidOutB Tryz.prog=true:=by kernel_rfl
theorem JM (os:Os) (args:Array Value):laidMetH Tryz.prog Rows.fnExactLcaRow.laid ((World.laidAll Tryz.prog os Rows.fnExactLcaRow.laid).forCall (fun _ _=>0) ⟨#[],args,[]⟩).memory :=
 by rw[MakeChecks.laidMetH_plain _ _ _ (by kernel_rfl)]; exact laidMet_laidAll _ (by kernel_rfl) (by kernel_rfl)
theorem Ff : "*" ++ "errors.errorString" = "*errors.errorString" := by decide
theorem IA (u:TypeId) (h:Tryz.prog.typeName? 3 u=some "*errors.errorString"):u=336:=typeName_ptr_named (nm := "errors.errorString") (by rw[Ff]; kernel_rfl) (by kernel_rfl) (by decide) u (by rw[Ff]; exact h)
theorem A2 {W:World} (h:laidMetH Tryz.prog Rows.fnExactLcaRow.laid W) : ∃ a,W.var? Tryz.prog "strconv.ErrSyntax" = some a ∧ ∃ tp p,a = #[.iface tp p]:=by
 have h2:laidMetH Tryz.prog [("strconv.ErrSyntax",Rows.laid_strconv_ErrSyntax)] W:=h.filter fun x=>x.1 == "strconv.ErrSyntax"
 rw[MakeChecks.laidMetH_plain _ _ _ (by kernel_rfl)] at h2
 obtain⟨a,s,hv,_⟩:=laid_sentinel (g:=1) (ti:=187) (tp:=336) (te:=338) (ts:=9) h2 (by kernel_rfl) (by kernel_rfl) Tryz.underlying187 IA Tryz.underlying336 Tryz.underlying338 rfl rfl Tryz.underlying9 (by kernel_rfl) (by kernel_rfl)
 exact⟨_,hv,_,_,rfl⟩
theorem DB {W:World} (h:laidMetH Tryz.prog Rows.fnExactLcaRow.laid W) : ∃ a,W.var? Tryz.prog "strconv.ErrRange" = some a ∧ ∃ tp p,a = #[.iface tp p]:=by
 have h2:laidMetH Tryz.prog [("strconv.ErrRange",Rows.laid_strconv_ErrRange)] W:=h.filter fun x=>x.1 == "strconv.ErrRange"
 rw[MakeChecks.laidMetH_plain _ _ _ (by kernel_rfl)] at h2
 obtain⟨a,s,hv,_⟩:=laid_sentinel (g:=2) (ti:=187) (tp:=336) (te:=338) (ts:=9) h2 (by kernel_rfl) (by kernel_rfl) Tryz.underlying187 IA Tryz.underlying336 Tryz.underlying338 rfl rfl Tryz.underlying9 (by kernel_rfl) (by kernel_rfl)
 exact⟨_,hv,_,_,rfl⟩
theorem GI {W:World} (h:laidMetH Tryz.prog Rows.fnExactLcaRow.laid W) : ∃ a,W.var? Tryz.prog "internal/strconv.uint64pow10" = some a∧a=(Lib.pow10Tab.map fun z=>Value.int .u64 z).toArray:=by
 have h2:laidMetH Tryz.prog [("internal/strconv.uint64pow10",Lib.tabData .u64 Lib.pow10Tab)] W:=h.filter fun x=>x.1 == "internal/strconv.uint64pow10"
 rw[MakeChecks.laidMetH_plain _ _ _ (by kernel_rfl)] at h2
 have h3:Lib.TabIs Tryz.prog W "internal/strconv.uint64pow10" .u64 Lib.pow10Tab:=Lib.tabIs_of_head (g:=3) (t:=327) (e:=243) (n:=20) (by kernel_rfl) (by kernel_rfl) Tryz.underlying327 Tryz.underlying243 (by kernel_rfl) (by kernel_rfl) h2
 exact⟨_,h3,rfl⟩
theorem KJ {W:World} (h:laidMetH Tryz.prog Rows.fnExactLcaRow.laid W) (hs:W.ShapedOpen Tryz.prog):du Tryz.prog vars W (iu [] fun _=>none):=by
 intro p hp
 unfold vars at hp
 rcases List.mem_cons.1 hp with rfl | hp
 ·exact⟨Hk (g:=0) (by kernel_rfl) (DR hs),fun _ _ hx=>by obtain⟨_,_,hx,_⟩:=hx; cases hx⟩
 rcases List.mem_cons.1 hp with rfl | hp
 ·exact⟨A2 h,fun _ _ hx=>by obtain⟨_,_,hx,_⟩:=hx; cases hx⟩
 rcases List.mem_cons.1 hp with rfl | hp
 ·exact⟨DB h,fun _ _ hx=>by obtain⟨_,_,hx,_⟩:=hx; cases hx⟩
 rcases List.mem_cons.1 hp with rfl | hp
 ·exact⟨GI h,fun _ _ hx=>by obtain⟨_,_,hx,_⟩:=hx; cases hx⟩
 cases hp
set_option maxRecDepth 100000 in
theorem lifted (os:Os) (started:os.Started) (H:Type) (enc:TypeId×Value→H) :
  ReturnsInHanded {} Tryz.checked os 3 .any (fun w args=>(Rows.fnExactLcaSpec.pre enc Tryz.prog Tryz.f3 Rows.fnExactLcaRow.domain false w args∧laidMetH Tryz.prog Rows.fnExactLcaRow.laid w)∧sizedMet enc Tryz.prog Tryz.f3 (OpenSpec.ofChange Rows.fnExactLcaSpec) false w args) (Rows.fnExactLcaSpec.post enc Tryz.prog Tryz.f3 false true false false):=by
 refine l5 (C:=Tryz.checked) (X:=fun w _=>laidMetH Tryz.prog Rows.fnExactLcaRow.laid w) (fun _ _ _ hh h=>h.of_heap hh) own started (by kernel_rfl) Tryz.func3
  (ChangeSpec.witness_shaped (enc:=enc) (C:=Tryz.checked) (os:=os) (X:=fun w _=>laidMetH Tryz.prog Rows.fnExactLcaRow.laid w) false (World.laidAll Tryz.prog os Rows.fnExactLcaRow.laid) #[.agg #[.int .i64 0,.slice none 0 0,.slice none 0 0],.int .i64 0,.int .i64 0] 8 (World.laidAll_os _ _ _) (World.shaped_of_ZipB (by kernel_rfl) (by kernel_rfl)) (by kernel_rfl) (by kernel_rfl) (by kernel_rfl) (JM os _)) ?_
 intro W base args ds gs before hval0 hW _ _ hL hSh _
 have hval : ∀(j:Nat) t v,Tryz.f3.params[j]? = some t→args[j]? = some v→Value.okWide Tryz.prog W .any base t v:=hval0
 have hW':=hW
 obtain⟨p,q,hA0,hV,rfl,hfz,hnd⟩:=hW
 have hA:DataW.TrodAll enc Tryz.prog W 0 (fun _=>true) true Tryz.f3.params.toList args.toList ds p:=hA0
 rw[Tryz.params3] at hA hval
 obtain⟨v0,vs0,d0,ds0,p0,q0,hargs,rfl,rfl,h0,r0⟩:=trodAll_cons hA
 obtain⟨v1,vs1,d1,ds1,p1,q1,rfl,rfl,rfl,h1,r1⟩:=trodAll_cons r0
 obtain⟨v2,vs2,d2,ds2,p2,q2,rfl,rfl,rfl,h2,r2⟩:=trodAll_cons r1
 obtain⟨rfl,rfl,rfl⟩:=trodAll_nil r2
 obtain rfl:args = #[v0,v1,v2]:=by cases args; simp_all
 obtain⟨rfl,rfl⟩:=trodVars_none hV
 have k0:=h0
 have lt0 : ∀ x∈p0,x.block < W.heap.size:=by obtain⟨m,hm⟩:=k0; exact DataW.trod_lt m _ _ _ hm
 obtain⟨y0,m0,e0,z0⟩:=BP (d:=9) (T:=25) (t:=ng) (by kernel_rfl) (hval 0 25 v0 rfl rfl) h0
 have k1:=h1
 have lt1 : ∀ x∈p1,x.block < W.heap.size:=by obtain⟨m,hm⟩:=k1; exact DataW.trod_lt m _ _ _ hm
 obtain⟨y1,m1,e1,z1⟩:=BP (d:=9) (T:=2) (t:=(.int .i64)) (by kernel_rfl) (hval 1 2 v1 rfl rfl) h1
 have k2:=h2
 have lt2 : ∀ x∈p2,x.block < W.heap.size:=by obtain⟨m,hm⟩:=k2; exact DataW.trod_lt m _ _ _ hm
 obtain⟨y2,m2,e2,z2⟩:=BP (d:=9) (T:=2) (t:=(.int .i64)) (by kernel_rfl) (hval 2 2 v2 rfl rfl) h2
 clear hA0 hval0
 refine(Hj (P:=Tryz.prog) (E:=E) (Gp:=du Tryz.prog vars) (I:=lS) (key:=3) du.stable (by kernel_rfl) K0 Ji (by kernel_rfl) (nd.ofL (ze m0 _ _)) (by kernel_rfl) (by kernel_rfl) (by kernel_rfl) (w:=W) (us:=[v0,v1,v2]) (KJ hL hSh) (.cons (BQ e0 z0) (.cons (BQ e1 z1) (.cons (BQ e2 z2) (.nil))))).mono fun e W' ⟨he,bel⟩ => ?_
 subst he
 exact⟨_,rfl,_,_,_,[],_,[],hW',trodAll_mk1 (shut_bool Tryz.underlying4 _),(trodAll_cons_mk (Below.trod zf (by kernel_rfl) (of_decide_eq_true (by kernel_rfl)) k0 bel lt0) (trodAll_cons_mk (Below.trod zf (by kernel_rfl) (of_decide_eq_true (by kernel_rfl)) k1 bel lt1) (trodAll_cons_mk (Below.trod zf (by kernel_rfl) (of_decide_eq_true (by kernel_rfl)) k2 bel lt2) trodAll_mk0))),rfl,bel.frame _,fun h=>by cases h⟩
theorem LP:laidOutB Tryz.pinned.checked.prog=true:=by kernel_rfl
theorem LQ:(Rows.fnExactLcaRow.inPlace == Tryz.pinned.checked.prog.inPlace 3)=true:=by kernel_rfl
theorem LR:(Rows.fnExactLcaRow.unfollowed == Tryz.pinned.checked.prog.unfollowed 3)=true:=by kernel_rfl
theorem LS:(Rows.fnExactLcaRow.recurses == Tryz.pinned.checked.prog.recurses 3)=true:=by kernel_rfl
theorem LU:(Rows.fnExactLcaRow.named == Tryz.pinned.checked.prog.varsNamed 3)=true:=by kernel_rfl
theorem LV:Tryz.pinned.checked.prog.stopsHeard=true:=by kernel_rfl
theorem LW:Tryz.pinned.checked.prog.mayEnter=true:=by kernel_rfl
theorem LX:(Rows.fnExactLcaRow.lifted == Tryz.pinned.checked.prog.liftsFinal)=true:=by kernel_rfl
theorem LY:joinedFacts Tryz.pinned.checked.prog 3 Tryz.f3 Rows.fnExactLcaSpec Rows.fnExactLcaRow=true:=by
 rw[joinedFacts,LP,LQ,LR,LS,LU,LV,LW,LX]
 kernel_rfl
theorem L7:Rows.fnExactLcaRow.holds Tryz.pinned (OpenSpec.ofChange Rows.fnExactLcaSpec) :=
 OpenClaim.holds_of_wide 3 Tryz.f3 rfl rfl rfl rfl rfl rfl rfl ⟨rfl,rfl,rfl,rfl,rfl⟩ rfl rfl rfl rfl rfl (by kernel_rfl) Tryz.func3 LY
  (of_decide_eq_true (by kernel_rfl)) (by unfold Func.isWrapper; first | (rw[if_pos (by decide +kernel)]; kernel_rfl) | (rw[if_neg (by decide +kernel)]; exact⟨rfl,rfl⟩))
  (fun os started H enc _=>lifted os started H enc)
theorem Lx:Rows.fnExactLcaRow.wfByText (.ofChange Rows.fnExactLcaSpec)=true:=by kernel_rfl
theorem mainIs:Tryz.pinned.checked.prog.mainIs=some (true, "3df18ce65db2ec6abd064d86937202fad6f2fdd72f98117125e5f68d33591263".toList):=by kernel_rfl
theorem KK:true=Tryz.pinned.checked.prog.looks []:=by kernel_rfl
theorem L8:Tryz.pinned.checked.prog.funcs.any Func.goes=false:=by kernel_rfl
theorem Ly:false=Rows.fnExactLcaRow.goesBy Tryz.pinned.checked.prog:=Hw L8 _
theorem JN:([25,2,2].all fun u => !Tryz.prog.wantsStandIn u)=true:=by kernel_rfl
theorem proved:Rows.FnExactLcaCardSaid :=
 Claim7.holds_tied_plain_at .later [] [.data,.data,.data,.data,.sentinel,.sentinel,.pinned] true (true, "3df18ce65db2ec6abd064d86937202fad6f2fdd72f98117125e5f68d33591263") true L7 (fun _ h=>by cases h) Lx (fun _ h=>by cases h) fnExactLca_row_tie rfl ⟨rfl,rfl⟩ mainIs rfl
  (fun f fn hf hfn=>by
   obtain rfl:f=3:=Option.some.inj ((show Tryz.prog.funcNamed "loop.example/g00267/laws.FnExactLca" = some 3 by kernel_rfl).symm.trans hf) |>.symm
   obtain rfl:fn=Tryz.f3:=(Option.some.inj (Tryz.func3.symm.trans hfn)).symm
   exact⟨KK,fun j t ht=>by
    rw[Tryz.params3] at ht
    have hm:t∈[25,2,2]:=by simpa using Array.mem_of_getElem? ht
    exact(show Tryz.prog.wantsStandIn t=false by simpa using List.all_eq_true.1 JN t hm)⟩)
  Ly
#print axioms proved
end Go.Proofs.YtfffplonjaigkaaGreatDoor.fnExactLca
namespace Go.Proofs.YtfffplonjaigkaaGreatDoor
theorem fnExactLca_holds:Rows.FnExactLcaCardSaid:=fnExactLca.proved
end Go.Proofs.YtfffplonjaigkaaGreatDoor
