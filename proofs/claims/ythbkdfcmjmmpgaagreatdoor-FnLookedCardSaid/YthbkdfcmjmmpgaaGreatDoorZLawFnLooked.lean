/- laws.FnLooked holds: whatever the input, it returns true and the input reads as it did. -/
import Derived.Test.YthbkdfcmjmmpgaaGreatDoorRows
import Derived.Test.YthbkdfcmjmmpgaaGreatDoorChecked
import Derived.Test.YthbkdfcmjmmpgaaGreatDoorZEnv
import Derived.WalkKit
import Derived.ProofKit
import Derived.OpenShut
import Derived.ShutString
import Derived.ChangeOld
import Derived.Below
import Derived.SizedLaws
import Derived.Test.YthbkdfcmjmmpgaaGreatDoorTie
import Derived.Test.YthbkdfcmjmmpgaaGreatDoorCards
import Derived.LaidMore
import Derived.Stop.Joined
import Derived.LaidSub
import Derived.SevenTiedAt
import Derived.Lay
import Derived.Stop.LaidErr
import Derived.Test.YthbkdfcmjmmpgaaGreatDoorZM2
import Derived.Test.YthbkdfcmjmmpgaaGreatDoorZPLLkd
namespace Go.Proofs.YthbkdfcmjmmpgaaGreatDoor.fnLooked
open Go.ChangeShapes Go.WideShapes Go.ChangeAt Go.RowKit Go.Proofs.YthbkdfcmjmmpgaaGreatDoor.Abs
set_option linter.unusedVariables false
theorem own:ownKnob Tryz.prog.godebug=none:=by kernel_rfl
theorem aa8:laidOutB Tryz.prog=true:=by kernel_rfl
theorem ZA (os:Os) (args:Array Value):laidMetH Tryz.prog Rows.fnLookedRow.laid ((World.laidAll Tryz.prog os Rows.fnLookedRow.laid).forCall (fun _ _=>0) ⟨#[],args,[]⟩).memory :=
 by rw[MakeChecks.laidMetH_plain _ _ _ (by kernel_rfl)]; exact laidMet_laidAll _ (by kernel_rfl) (by kernel_rfl)
theorem SZ : "*" ++ "errors.errorString" = "*errors.errorString" := by decide
theorem XD (u:TypeId) (h:Tryz.prog.typeName? 3 u=some "*errors.errorString"):u=286:=typeName_ptr_named (nm := "errors.errorString") (by rw[SZ]; kernel_rfl) (by kernel_rfl) (by decide) u (by rw[SZ]; exact h)
theorem Mz {W:World} (h:laidMetH Tryz.prog Rows.fnLookedRow.laid W) : ∃ a,W.var? Tryz.prog "strconv.ErrSyntax" = some a ∧ ∃ tp p,a = #[.iface tp p]:=by
 have h2:laidMetH Tryz.prog [("strconv.ErrSyntax",Rows.laid_strconv_ErrSyntax)] W:=h.filter fun x=>x.1 == "strconv.ErrSyntax"
 rw[MakeChecks.laidMetH_plain _ _ _ (by kernel_rfl)] at h2
 obtain⟨a,s,hv,_⟩:=laid_sentinel (g:=0) (ti:=113) (tp:=286) (te:=288) (ts:=9) h2 (by kernel_rfl) (by kernel_rfl) Tryz.underlying113 XD Tryz.underlying286 Tryz.underlying288 rfl rfl Tryz.underlying9 (by kernel_rfl) (by kernel_rfl)
 exact⟨_,hv,_,_,rfl⟩
theorem Qd {W:World} (h:laidMetH Tryz.prog Rows.fnLookedRow.laid W) : ∃ a,W.var? Tryz.prog "strconv.ErrRange" = some a ∧ ∃ tp p,a = #[.iface tp p]:=by
 have h2:laidMetH Tryz.prog [("strconv.ErrRange",Rows.laid_strconv_ErrRange)] W:=h.filter fun x=>x.1 == "strconv.ErrRange"
 rw[MakeChecks.laidMetH_plain _ _ _ (by kernel_rfl)] at h2
 obtain⟨a,s,hv,_⟩:=laid_sentinel (g:=1) (ti:=113) (tp:=286) (te:=288) (ts:=9) h2 (by kernel_rfl) (by kernel_rfl) Tryz.underlying113 XD Tryz.underlying286 Tryz.underlying288 rfl rfl Tryz.underlying9 (by kernel_rfl) (by kernel_rfl)
 exact⟨_,hv,_,_,rfl⟩
theorem U9 {W:World} (h:laidMetH Tryz.prog Rows.fnLookedRow.laid W) : ∃ a,W.var? Tryz.prog "internal/strconv.uint64pow10" = some a∧a=(Lib.pow10Tab.map fun z=>Value.int .u64 z).toArray:=by
 have h2:laidMetH Tryz.prog [("internal/strconv.uint64pow10",Lib.tabData .u64 Lib.pow10Tab)] W:=h.filter fun x=>x.1 == "internal/strconv.uint64pow10"
 rw[MakeChecks.laidMetH_plain _ _ _ (by kernel_rfl)] at h2
 have h3:Lib.TabIs Tryz.prog W "internal/strconv.uint64pow10" .u64 Lib.pow10Tab:=Lib.tabIs_of_head (g:=2) (t:=291) (e:=137) (n:=20) (by kernel_rfl) (by kernel_rfl) Tryz.underlying291 Tryz.underlying137 (by kernel_rfl) (by kernel_rfl) h2
 exact⟨_,h3,rfl⟩
theorem aa9 {W:World} (h:laidMetH Tryz.prog Rows.fnLookedRow.laid W) (hs:W.ShapedOpen Tryz.prog):gz Tryz.prog vars W (nE [] fun _=>none):=by
 intro p hp
 unfold vars at hp
 rcases List.mem_cons.1 hp with rfl | hp
 ·exact⟨Mz h,fun _ _ hx=>by obtain⟨_,_,hx,_⟩:=hx; cases hx⟩
 rcases List.mem_cons.1 hp with rfl | hp
 ·exact⟨Qd h,fun _ _ hx=>by obtain⟨_,_,hx,_⟩:=hx; cases hx⟩
 rcases List.mem_cons.1 hp with rfl | hp
 ·exact⟨U9 h,fun _ _ hx=>by obtain⟨_,_,hx,_⟩:=hx; cases hx⟩
 rcases List.mem_cons.1 hp with rfl | hp
 ·exact⟨VL (g:=5) (by kernel_rfl) (Qx hs),fun _ _ hx=>by obtain⟨_,_,hx,_⟩:=hx; cases hx⟩
 cases hp
set_option maxRecDepth 100000 in
theorem lifted (os:Os) (started:os.Started) (H:Type) (enc:TypeId×Value→H) :
  ReturnsInHanded {} Tryz.checked os 4 .any (fun w args=>(Rows.fnLookedSpec.pre enc Tryz.prog Tryz.f4 Rows.fnLookedRow.domain false w args∧laidMetH Tryz.prog Rows.fnLookedRow.laid w)∧sizedMet enc Tryz.prog Tryz.f4 (OpenSpec.ofChange Rows.fnLookedSpec) false w args) (Rows.fnLookedSpec.post enc Tryz.prog Tryz.f4 false true false false):=by
 refine tw (C:=Tryz.checked) (X:=fun w _=>laidMetH Tryz.prog Rows.fnLookedRow.laid w) (fun _ _ _ hh h=>h.of_heap hh) own started (by kernel_rfl) Tryz.func4
  (ChangeSpec.witness_shaped (enc:=enc) (C:=Tryz.checked) (os:=os) (X:=fun w _=>laidMetH Tryz.prog Rows.fnLookedRow.laid w) false (World.laidAll Tryz.prog os Rows.fnLookedRow.laid) #[.slice none 0 0] 8 (World.laidAll_os _ _ _) (World.shaped_of_ZipB (by kernel_rfl) (by kernel_rfl)) (by kernel_rfl) (by kernel_rfl) (by kernel_rfl) (ZA os _)) ?_
 intro W base args ds gs before hval0 hW _ _ hL hSh _
 have hval : ∀(j:Nat) t v,Tryz.f4.params[j]? = some t→args[j]? = some v→Value.okWide Tryz.prog W .any base t v:=hval0
 have hW':=hW
 obtain⟨p,q,hA0,hV,rfl,hfz,hnd⟩:=hW
 have hA:DataW.TrodAll enc Tryz.prog W 0 (fun _=>true) true Tryz.f4.params.toList args.toList ds p:=hA0
 rw[Tryz.params4] at hA hval
 obtain⟨v0,vs0,d0,ds0,p0,q0,hargs,rfl,rfl,h0,r0⟩:=trodAll_cons hA
 obtain⟨rfl,rfl,rfl⟩:=trodAll_nil r0
 obtain rfl:args = #[v0]:=by cases args; simp_all
 obtain⟨rfl,rfl⟩:=trodVars_none hV
 have k0:=h0
 have lt0 : ∀ x∈p0,x.block < W.heap.size:=by obtain⟨m,hm⟩:=k0; exact DataW.trod_lt m _ _ _ hm
 obtain⟨y0,m0,e0,z0⟩:=abp (d:=9) (T:=22) (t:=(.slice 5 (.int .u8))) (by kernel_rfl) (hval 0 22 v0 rfl rfl) h0
 clear hA0 hval0
 refine(VK (P:=Tryz.prog) (E:=E) (Gp:=gz Tryz.prog vars) (I:=n7) (key:=4) gz.stable (by kernel_rfl) abu Yk (by kernel_rfl) (uR.ofL (Qc m0)) (by kernel_rfl) (by kernel_rfl) (by kernel_rfl) (w:=W) (us:=[v0]) (aa9 hL hSh) (.cons (abq e0 z0) (.nil))).mono fun e W' ⟨he,bel⟩ => ?_
 subst he
 exact⟨_,rfl,_,_,_,[],_,[],hW',trodAll_mk1 (shut_bool Tryz.underlying4 _),(trodAll_cons_mk (Below.trod aa8 (by kernel_rfl) (of_decide_eq_true (by kernel_rfl)) k0 bel lt0) trodAll_mk0),rfl,bel.frame _,fun h=>by cases h⟩
theorem acJ:laidOutB Tryz.pinned.checked.prog=true:=by kernel_rfl
theorem acK:(Rows.fnLookedRow.inPlace == Tryz.pinned.checked.prog.inPlace 4)=true:=by kernel_rfl
theorem acL:(Rows.fnLookedRow.unfollowed == Tryz.pinned.checked.prog.unfollowed 4)=true:=by kernel_rfl
theorem acM:(Rows.fnLookedRow.recurses == Tryz.pinned.checked.prog.recurses 4)=true:=by kernel_rfl
theorem acN:(Rows.fnLookedRow.named == Tryz.pinned.checked.prog.varsNamed 4)=true:=by kernel_rfl
theorem acO:Tryz.pinned.checked.prog.stopsHeard=true:=by kernel_rfl
theorem acP:Tryz.pinned.checked.prog.mayEnter=true:=by kernel_rfl
theorem acQ:(Rows.fnLookedRow.lifted == Tryz.pinned.checked.prog.liftsFinal)=true:=by kernel_rfl
theorem acR:joinedFacts Tryz.pinned.checked.prog 4 Tryz.f4 Rows.fnLookedSpec Rows.fnLookedRow=true:=by
 rw[joinedFacts,acJ,acK,acL,acM,acN,acO,acP,acQ]
 kernel_rfl
theorem ac4:Rows.fnLookedRow.holds Tryz.pinned (OpenSpec.ofChange Rows.fnLookedSpec) :=
 OpenClaim.holds_of_wide 4 Tryz.f4 rfl rfl rfl rfl rfl rfl rfl ⟨rfl,rfl,rfl,rfl,rfl⟩ rfl rfl rfl rfl rfl (by kernel_rfl) Tryz.func4 acR
  (of_decide_eq_true (by kernel_rfl)) (by unfold Func.isWrapper; first | (rw[if_pos (by decide +kernel)]; kernel_rfl) | (rw[if_neg (by decide +kernel)]; exact⟨rfl,rfl⟩))
  (fun os started H enc _=>lifted os started H enc)
theorem acg:Rows.fnLookedRow.wfByText (.ofChange Rows.fnLookedSpec)=true:=by kernel_rfl
theorem mainIs:Tryz.pinned.checked.prog.mainIs=some (true, "9554c958d71b464eebac2baabb0a9b4070624fa717b295b47d44ce009779f483".toList):=by kernel_rfl
theorem aba:true=Tryz.pinned.checked.prog.looks []:=by kernel_rfl
theorem ac5:Tryz.pinned.checked.prog.funcs.any Func.goes=false:=by kernel_rfl
theorem ach:false=Rows.fnLookedRow.goesBy Tryz.pinned.checked.prog:=VZ ac5 _
theorem ZB:([22].all fun u => !Tryz.prog.wantsStandIn u)=true:=by kernel_rfl
theorem proved:Rows.FnLookedCardSaid :=
 Claim7.holds_tied_plain_at .later [] [.data,.data,.data,.data,.sentinel,.sentinel,.pinned] true (true, "9554c958d71b464eebac2baabb0a9b4070624fa717b295b47d44ce009779f483") true ac4 (fun _ h=>by cases h) acg (fun _ h=>by cases h) fnLooked_row_tie rfl ⟨rfl,rfl⟩ mainIs rfl
  (fun f fn hf hfn=>by
   obtain rfl:f=4:=Option.some.inj ((show Tryz.prog.funcNamed "loop.example/g00267/laws.FnLooked" = some 4 by kernel_rfl).symm.trans hf) |>.symm
   obtain rfl:fn=Tryz.f4:=(Option.some.inj (Tryz.func4.symm.trans hfn)).symm
   exact⟨aba,fun j t ht=>by
    rw[Tryz.params4] at ht
    have hm:t∈[22]:=by simpa using Array.mem_of_getElem? ht
    exact(show Tryz.prog.wantsStandIn t=false by simpa using List.all_eq_true.1 ZB t hm)⟩)
  ach
#print axioms proved
end Go.Proofs.YthbkdfcmjmmpgaaGreatDoor.fnLooked
namespace Go.Proofs.YthbkdfcmjmmpgaaGreatDoor
theorem fnLooked_holds:Rows.FnLookedCardSaid:=fnLooked.proved
end Go.Proofs.YthbkdfcmjmmpgaaGreatDoor
