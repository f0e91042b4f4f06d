/- laws.FnOpenKeeps holds: whatever the input, it returns true and the input reads as it did. -/
import Derived.Test.YtipnjpfdlolhmaaGreatDoorRows
import Derived.Test.YtipnjpfdlolhmaaGreatDoorChecked
import Derived.Test.YtipnjpfdlolhmaaGreatDoorZEnv
import Derived.WalkKit
import Derived.ProofKit
import Derived.OpenShut
import Derived.ShutString
import Derived.ChangeOld
import Derived.Below
import Derived.SizedLaws
import Derived.Test.YtipnjpfdlolhmaaGreatDoorTie
import Derived.Test.YtipnjpfdlolhmaaGreatDoorCards
import Derived.LaidMore
import Derived.Stop.Joined
import Derived.LaidSub
import Derived.SevenTiedAt
import Derived.Lay
import Derived.Stop.LaidErr
import Derived.Test.YtipnjpfdlolhmaaGreatDoorZM2
import Derived.Test.YtipnjpfdlolhmaaGreatDoorZPLOpen
namespace Go.Proofs.YtipnjpfdlolhmaaGreatDoor.fnOpenKeeps
open Go.ChangeShapes Go.WideShapes Go.ChangeAt Go.RowKit Go.Proofs.YtipnjpfdlolhmaaGreatDoor.Abs
set_option linter.unusedVariables false
theorem own:ownKnob Tryz.prog.godebug=none:=by kernel_rfl
theorem XL:laidOutB Tryz.prog=true:=by kernel_rfl
theorem Wc (os:Os) (args:Array Value):laidMetH Tryz.prog Rows.fnOpenKeepsRow.laid ((World.laidAll Tryz.prog os Rows.fnOpenKeepsRow.laid).forCall (fun _ _=>0) ⟨#[],args,[]⟩).memory :=
 by rw[MakeChecks.laidMetH_plain _ _ _ (by kernel_rfl)]; exact laidMet_laidAll _ (by kernel_rfl) (by kernel_rfl)
theorem PB : "*" ++ "errors.errorString" = "*errors.errorString" := by decide
theorem Uu (u:TypeId) (h:Tryz.prog.typeName? 3 u=some "*errors.errorString"):u=243:=typeName_ptr_named (nm := "errors.errorString") (by rw[PB]; kernel_rfl) (by kernel_rfl) (by decide) u (by rw[PB]; exact h)
theorem JQ {W:World} (h:laidMetH Tryz.prog Rows.fnOpenKeepsRow.laid W) : ∃ a,W.var? Tryz.prog "strconv.ErrSyntax" = some a ∧ ∃ tp p,a = #[.iface tp p]:=by
 have h2:laidMetH Tryz.prog [("strconv.ErrSyntax",Rows.laid_strconv_ErrSyntax)] W:=h.filter fun x=>x.1 == "strconv.ErrSyntax"
 rw[MakeChecks.laidMetH_plain _ _ _ (by kernel_rfl)] at h2
 obtain⟨a,s,hv,_⟩:=laid_sentinel (g:=0) (ti:=133) (tp:=243) (te:=245) (ts:=9) h2 (by kernel_rfl) (by kernel_rfl) Tryz.underlying133 Uu Tryz.underlying243 Tryz.underlying245 rfl rfl Tryz.underlying9 (by kernel_rfl) (by kernel_rfl)
 exact⟨_,hv,_,_,rfl⟩
theorem M4 {W:World} (h:laidMetH Tryz.prog Rows.fnOpenKeepsRow.laid W) : ∃ a,W.var? Tryz.prog "strconv.ErrRange" = some a ∧ ∃ tp p,a = #[.iface tp p]:=by
 have h2:laidMetH Tryz.prog [("strconv.ErrRange",Rows.laid_strconv_ErrRange)] W:=h.filter fun x=>x.1 == "strconv.ErrRange"
 rw[MakeChecks.laidMetH_plain _ _ _ (by kernel_rfl)] at h2
 obtain⟨a,s,hv,_⟩:=laid_sentinel (g:=1) (ti:=133) (tp:=243) (te:=245) (ts:=9) h2 (by kernel_rfl) (by kernel_rfl) Tryz.underlying133 Uu Tryz.underlying243 Tryz.underlying245 rfl rfl Tryz.underlying9 (by kernel_rfl) (by kernel_rfl)
 exact⟨_,hv,_,_,rfl⟩
theorem RF {W:World} (h:laidMetH Tryz.prog Rows.fnOpenKeepsRow.laid W) : ∃ a,W.var? Tryz.prog "internal/strconv.uint64pow10" = some a∧a=(Lib.pow10Tab.map fun z=>Value.int .u64 z).toArray:=by
 have h2:laidMetH Tryz.prog [("internal/strconv.uint64pow10",Lib.tabData .u64 Lib.pow10Tab)] W:=h.filter fun x=>x.1 == "internal/strconv.uint64pow10"
 rw[MakeChecks.laidMetH_plain _ _ _ (by kernel_rfl)] at h2
 have h3:Lib.TabIs Tryz.prog W "internal/strconv.uint64pow10" .u64 Lib.pow10Tab:=Lib.tabIs_of_head (g:=2) (t:=248) (e:=178) (n:=20) (by kernel_rfl) (by kernel_rfl) Tryz.underlying248 Tryz.underlying178 (by kernel_rfl) (by kernel_rfl) h2
 exact⟨_,h3,rfl⟩
theorem XM {W:World} (h:laidMetH Tryz.prog Rows.fnOpenKeepsRow.laid W) (hs:W.ShapedOpen Tryz.prog):gx Tryz.prog vars W (mQ [] fun _=>none):=by
 intro p hp
 unfold vars at hp
 rcases List.mem_cons.1 hp with rfl | hp
 ·exact⟨JQ h,fun _ _ hx=>by obtain⟨_,_,hx,_⟩:=hx; cases hx⟩
 rcases List.mem_cons.1 hp with rfl | hp
 ·exact⟨M4 h,fun _ _ hx=>by obtain⟨_,_,hx,_⟩:=hx; cases hx⟩
 rcases List.mem_cons.1 hp with rfl | hp
 ·exact⟨RF h,fun _ _ hx=>by obtain⟨_,_,hx,_⟩:=hx; cases hx⟩
 rcases List.mem_cons.1 hp with rfl | hp
 ·exact⟨Sq (g:=5) (by kernel_rfl) (Nn hs),fun _ _ hx=>by obtain⟨_,_,hx,_⟩:=hx; cases hx⟩
 cases hp
set_option maxRecDepth 100000 in
theorem lifted (os:Os) (started:os.Started) (H:Type) (enc:TypeId×Value→H) :
  ReturnsInHanded {} Tryz.checked os 3 .any (fun w args=>(Rows.fnOpenKeepsSpec.pre enc Tryz.prog Tryz.f3 Rows.fnOpenKeepsRow.domain false w args∧laidMetH Tryz.prog Rows.fnOpenKeepsRow.laid w)∧sizedMet enc Tryz.prog Tryz.f3 (OpenSpec.ofChange Rows.fnOpenKeepsSpec) false w args) (Rows.fnOpenKeepsSpec.post enc Tryz.prog Tryz.f3 false true false false):=by
 refine rI (C:=Tryz.checked) (X:=fun w _=>laidMetH Tryz.prog Rows.fnOpenKeepsRow.laid w) (fun _ _ _ hh h=>h.of_heap hh) own started (by kernel_rfl) Tryz.func3
  (ChangeSpec.witness_shaped (enc:=enc) (C:=Tryz.checked) (os:=os) (X:=fun w _=>laidMetH Tryz.prog Rows.fnOpenKeepsRow.laid w) false (World.laidAll Tryz.prog os Rows.fnOpenKeepsRow.laid) #[.slice none 0 0] 8 (World.laidAll_os _ _ _) (World.shaped_of_ZipB (by kernel_rfl) (by kernel_rfl)) (by kernel_rfl) (by kernel_rfl) (by kernel_rfl) (Wc os _)) ?_
 intro W base args ds gs before hval0 hW _ _ hL hSh _
 have hval : ∀(j:Nat) t v,Tryz.f3.params[j]? = some t→args[j]? = some v→Value.okWide Tryz.prog W .any base t v:=hval0
 have hW':=hW
 obtain⟨p,q,hA0,hV,rfl,hfz,hnd⟩:=hW
 have hA:DataW.TrodAll enc Tryz.prog W 0 (fun _=>true) true Tryz.f3.params.toList args.toList ds p:=hA0
 rw[Tryz.params3] at hA hval
 obtain⟨v0,vs0,d0,ds0,p0,q0,hargs,rfl,rfl,h0,r0⟩:=trodAll_cons hA
 obtain⟨rfl,rfl,rfl⟩:=trodAll_nil r0
 obtain rfl:args = #[v0]:=by cases args; simp_all
 obtain⟨rfl,rfl⟩:=trodVars_none hV
 have k0:=h0
 have lt0 : ∀ x∈p0,x.block < W.heap.size:=by obtain⟨m,hm⟩:=k0; exact DataW.trod_lt m _ _ _ hm
 obtain⟨y0,m0,e0,z0⟩:=X2 (d:=9) (T:=22) (t:=(.slice 5 (.int .u8))) (by kernel_rfl) (hval 0 22 v0 rfl rfl) h0
 clear hA0 hval0
 refine(Sp (P:=Tryz.prog) (E:=E) (Gp:=gx Tryz.prog vars) (I:=jY) (key:=3) gx.stable (by kernel_rfl) X6 U8 (by kernel_rfl) (tg.ofL (Gu m0)) (by kernel_rfl) (by kernel_rfl) (by kernel_rfl) (w:=W) (us:=[v0]) (XM hL hSh) (.cons (X3 e0 z0) (.nil))).mono fun e W' ⟨he,bel⟩ => ?_
 subst he
 exact⟨_,rfl,_,_,_,[],_,[],hW',trodAll_mk1 (shut_bool Tryz.underlying4 _),(trodAll_cons_mk (Below.trod XL (by kernel_rfl) (of_decide_eq_true (by kernel_rfl)) k0 bel lt0) trodAll_mk0),rfl,bel.frame _,fun h=>by cases h⟩
theorem Zn:laidOutB Tryz.pinned.checked.prog=true:=by kernel_rfl
theorem Zo:(Rows.fnOpenKeepsRow.inPlace == Tryz.pinned.checked.prog.inPlace 3)=true:=by kernel_rfl
theorem Zp:(Rows.fnOpenKeepsRow.unfollowed == Tryz.pinned.checked.prog.unfollowed 3)=true:=by kernel_rfl
theorem Zq:(Rows.fnOpenKeepsRow.recurses == Tryz.pinned.checked.prog.recurses 3)=true:=by kernel_rfl
theorem Zr:(Rows.fnOpenKeepsRow.named == Tryz.pinned.checked.prog.varsNamed 3)=true:=by kernel_rfl
theorem Zs:Tryz.pinned.checked.prog.stopsHeard=true:=by kernel_rfl
theorem Zt:Tryz.pinned.checked.prog.mayEnter=true:=by kernel_rfl
theorem Zu:(Rows.fnOpenKeepsRow.lifted == Tryz.pinned.checked.prog.liftsFinal)=true:=by kernel_rfl
theorem Zv:joinedFacts Tryz.pinned.checked.prog 3 Tryz.f3 Rows.fnOpenKeepsSpec Rows.fnOpenKeepsRow=true:=by
 rw[joinedFacts,Zn,Zo,Zp,Zq,Zr,Zs,Zt,Zu]
 kernel_rfl
theorem ZM:Rows.fnOpenKeepsRow.holds Tryz.pinned (OpenSpec.ofChange Rows.fnOpenKeepsSpec) :=
 OpenClaim.holds_of_wide 3 Tryz.f3 rfl rfl rfl rfl rfl rfl rfl ⟨rfl,rfl,rfl,rfl,rfl⟩ rfl rfl rfl rfl rfl (by kernel_rfl) Tryz.func3 Zv
  (of_decide_eq_true (by kernel_rfl)) (by unfold Func.isWrapper; first | (rw[if_pos (by decide +kernel)]; kernel_rfl) | (rw[if_neg (by decide +kernel)]; exact⟨rfl,rfl⟩))
  (fun os started H enc _=>lifted os started H enc)
theorem YW:Rows.fnOpenKeepsRow.wfByText (.ofChange Rows.fnOpenKeepsSpec)=true:=by kernel_rfl
theorem mainIs:Tryz.pinned.checked.prog.mainIs=some (true, "e8551c378ed4ae8a3bd88084f9daa27469014df900afdee9a414c262bb0295d4".toList):=by kernel_rfl
theorem XN:true=Tryz.pinned.checked.prog.looks []:=by kernel_rfl
theorem ZN:Tryz.pinned.checked.prog.funcs.any Func.goes=false:=by kernel_rfl
theorem YX:false=Rows.fnOpenKeepsRow.goesBy Tryz.pinned.checked.prog:=SI ZN _
theorem Wd:([22].all fun u => !Tryz.prog.wantsStandIn u)=true:=by kernel_rfl
theorem proved:Rows.FnOpenKeepsCardSaid :=
 Claim7.holds_tied_plain_at .later [] [.data,.data,.data,.data,.sentinel,.sentinel,.pinned] true (true, "e8551c378ed4ae8a3bd88084f9daa27469014df900afdee9a414c262bb0295d4") true ZM (fun _ h=>by cases h) YW (fun _ h=>by cases h) fnOpenKeeps_row_tie rfl ⟨rfl,rfl⟩ mainIs rfl
  (fun f fn hf hfn=>by
   obtain rfl:f=3:=Option.some.inj ((show Tryz.prog.funcNamed "loop.example/g00267/laws.FnOpenKeeps" = some 3 by kernel_rfl).symm.trans hf) |>.symm
   obtain rfl:fn=Tryz.f3:=(Option.some.inj (Tryz.func3.symm.trans hfn)).symm
   exact⟨XN,fun j t ht=>by
    rw[Tryz.params3] at ht
    have hm:t∈[22]:=by simpa using Array.mem_of_getElem? ht
    exact(show Tryz.prog.wantsStandIn t=false by simpa using List.all_eq_true.1 Wd t hm)⟩)
  YX
#print axioms proved
end Go.Proofs.YtipnjpfdlolhmaaGreatDoor.fnOpenKeeps
namespace Go.Proofs.YtipnjpfdlolhmaaGreatDoor
theorem fnOpenKeeps_holds:Rows.FnOpenKeepsCardSaid:=fnOpenKeeps.proved
end Go.Proofs.YtipnjpfdlolhmaaGreatDoor
