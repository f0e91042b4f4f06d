/- laws.FnAllOrNothing holds: whatever the input, it returns true and the input reads as it did. -/
import Derived.Test.YthbkdfcmjmmpgaaGreatDoorRows
import Derived.Test.YthbkdfcmjmmpgaaGreatDoorChecked
import Derived.Test.YthbkdfcmjmmpgaaGreatDoorZEnv
import Derived.WalkKit
import Derived.ProofKit
import Derived.OpenShut
import Derived.ShutString
import Derived.ChangeOld
import Derived.Below
import Derived.SizedLaws
import Derived.Test.YthbkdfcmjmmpgaaGreatDoorTie
import Derived.Test.YthbkdfcmjmmpgaaGreatDoorCards
import Derived.LaidMore
import Derived.Stop.Joined
import Derived.LaidSub
import Derived.SevenTiedAt
import Derived.Lay
import Derived.Stop.LaidErr
import Derived.Test.YthbkdfcmjmmpgaaGreatDoorZM2
import Derived.Test.YthbkdfcmjmmpgaaGreatDoorZPLAll
namespace Go.Proofs.YthbkdfcmjmmpgaaGreatDoor.fnAllOrNothing
open Go.ChangeShapes Go.WideShapes Go.ChangeAt Go.RowKit Go.Proofs.YthbkdfcmjmmpgaaGreatDoor.Abs
set_option linter.unusedVariables false
theorem own:ownKnob Tryz.prog.godebug=none:=by kernel_rfl
theorem aak:laidOutB Tryz.prog=true:=by kernel_rfl
theorem YM (os:Os) (args:Array Value):laidMetH Tryz.prog Rows.fnAllOrNothingRow.laid ((World.laidAll Tryz.prog os Rows.fnAllOrNothingRow.laid).forCall (fun _ _=>0) ⟨#[],args,[]⟩).memory :=
 by rw[MakeChecks.laidMetH_plain _ _ _ (by kernel_rfl)]; exact laidMet_laidAll _ (by kernel_rfl) (by kernel_rfl)
theorem Sa : "*" ++ "errors.errorString" = "*errors.errorString" := by decide
theorem WR (u:TypeId) (h:Tryz.prog.typeName? 3 u=some "*errors.errorString"):u=286:=typeName_ptr_named (nm := "errors.errorString") (by rw[Sa]; kernel_rfl) (by kernel_rfl) (by decide) u (by rw[Sa]; exact h)
theorem LN {W:World} (h:laidMetH Tryz.prog Rows.fnAllOrNothingRow.laid W) : ∃ a,W.var? Tryz.prog "strconv.ErrSyntax" = some a ∧ ∃ tp p,a = #[.iface tp p]:=by
 have h2:laidMetH Tryz.prog [("strconv.ErrSyntax",Rows.laid_strconv_ErrSyntax)] W:=h.filter fun x=>x.1 == "strconv.ErrSyntax"
 rw[MakeChecks.laidMetH_plain _ _ _ (by kernel_rfl)] at h2
 obtain⟨a,s,hv,_⟩:=laid_sentinel (g:=0) (ti:=113) (tp:=286) (te:=288) (ts:=9) h2 (by kernel_rfl) (by kernel_rfl) Tryz.underlying113 WR Tryz.underlying286 Tryz.underlying288 rfl rfl Tryz.underlying9 (by kernel_rfl) (by kernel_rfl)
 exact⟨_,hv,_,_,rfl⟩
theorem Py {W:World} (h:laidMetH Tryz.prog Rows.fnAllOrNothingRow.laid W) : ∃ a,W.var? Tryz.prog "strconv.ErrRange" = some a ∧ ∃ tp p,a = #[.iface tp p]:=by
 have h2:laidMetH Tryz.prog [("strconv.ErrRange",Rows.laid_strconv_ErrRange)] W:=h.filter fun x=>x.1 == "strconv.ErrRange"
 rw[MakeChecks.laidMetH_plain _ _ _ (by kernel_rfl)] at h2
 obtain⟨a,s,hv,_⟩:=laid_sentinel (g:=1) (ti:=113) (tp:=286) (te:=288) (ts:=9) h2 (by kernel_rfl) (by kernel_rfl) Tryz.underlying113 WR Tryz.underlying286 Tryz.underlying288 rfl rfl Tryz.underlying9 (by kernel_rfl) (by kernel_rfl)
 exact⟨_,hv,_,_,rfl⟩
theorem Um {W:World} (h:laidMetH Tryz.prog Rows.fnAllOrNothingRow.laid W) : ∃ a,W.var? Tryz.prog "internal/strconv.uint64pow10" = some a∧a=(Lib.pow10Tab.map fun z=>Value.int .u64 z).toArray:=by
 have h2:laidMetH Tryz.prog [("internal/strconv.uint64pow10",Lib.tabData .u64 Lib.pow10Tab)] W:=h.filter fun x=>x.1 == "internal/strconv.uint64pow10"
 rw[MakeChecks.laidMetH_plain _ _ _ (by kernel_rfl)] at h2
 have h3:Lib.TabIs Tryz.prog W "internal/strconv.uint64pow10" .u64 Lib.pow10Tab:=Lib.tabIs_of_head (g:=2) (t:=291) (e:=137) (n:=20) (by kernel_rfl) (by kernel_rfl) Tryz.underlying291 Tryz.underlying137 (by kernel_rfl) (by kernel_rfl) h2
 exact⟨_,h3,rfl⟩
theorem aal {W:World} (h:laidMetH Tryz.prog Rows.fnAllOrNothingRow.laid W) (hs:W.ShapedOpen Tryz.prog):gt Tryz.prog vars W (nj [] fun _=>none):=by
 intro p hp
 unfold vars at hp
 rcases List.mem_cons.1 hp with rfl | hp
 ·exact⟨LN h,fun _ _ hx=>by obtain⟨_,_,hx,_⟩:=hx; cases hx⟩
 rcases List.mem_cons.1 hp with rfl | hp
 ·exact⟨Py h,fun _ _ hx=>by obtain⟨_,_,hx,_⟩:=hx; cases hx⟩
 rcases List.mem_cons.1 hp with rfl | hp
 ·exact⟨Um h,fun _ _ hx=>by obtain⟨_,_,hx,_⟩:=hx; cases hx⟩
 rcases List.mem_cons.1 hp with rfl | hp
 ·exact⟨U0 (g:=5) (by kernel_rfl) (PR hs),fun _ _ hx=>by obtain⟨_,_,hx,_⟩:=hx; cases hx⟩
 cases hp
set_option maxRecDepth 100000 in
theorem lifted (os:Os) (started:os.Started) (H:Type) (enc:TypeId×Value→H) :
  ReturnsInHanded {} Tryz.checked os 3 .any (fun w args=>(Rows.fnAllOrNothingSpec.pre enc Tryz.prog Tryz.f3 Rows.fnAllOrNothingRow.domain false w args∧laidMetH Tryz.prog Rows.fnAllOrNothingRow.laid w)∧sizedMet enc Tryz.prog Tryz.f3 (OpenSpec.ofChange Rows.fnAllOrNothingSpec) false w args) (Rows.fnAllOrNothingSpec.post enc Tryz.prog Tryz.f3 false true false false):=by
 refine s7 (C:=Tryz.checked) (X:=fun w _=>laidMetH Tryz.prog Rows.fnAllOrNothingRow.laid w) (fun _ _ _ hh h=>h.of_heap hh) own started (by kernel_rfl) Tryz.func3
  (ChangeSpec.witness_shaped (enc:=enc) (C:=Tryz.checked) (os:=os) (X:=fun w _=>laidMetH Tryz.prog Rows.fnAllOrNothingRow.laid w) false (World.laidAll Tryz.prog os Rows.fnAllOrNothingRow.laid) #[.slice none 0 0] 8 (World.laidAll_os _ _ _) (World.shaped_of_ZipB (by kernel_rfl) (by kernel_rfl)) (by kernel_rfl) (by kernel_rfl) (by kernel_rfl) (YM os _)) ?_
 intro W base args ds gs before hval0 hW _ _ hL hSh _
 have hval : ∀(j:Nat) t v,Tryz.f3.params[j]? = some t→args[j]? = some v→Value.okWide Tryz.prog W .any base t v:=hval0
 have hW':=hW
 obtain⟨p,q,hA0,hV,rfl,hfz,hnd⟩:=hW
 have hA:DataW.TrodAll enc Tryz.prog W 0 (fun _=>true) true Tryz.f3.params.toList args.toList ds p:=hA0
 rw[Tryz.params3] at hA hval
 obtain⟨v0,vs0,d0,ds0,p0,q0,hargs,rfl,rfl,h0,r0⟩:=trodAll_cons hA
 obtain⟨rfl,rfl,rfl⟩:=trodAll_nil r0
 obtain rfl:args = #[v0]:=by cases args; simp_all
 obtain⟨rfl,rfl⟩:=trodVars_none hV
 have k0:=h0
 have lt0 : ∀ x∈p0,x.block < W.heap.size:=by obtain⟨m,hm⟩:=k0; exact DataW.trod_lt m _ _ _ hm
 obtain⟨y0,m0,e0,z0⟩:=aaA (d:=9) (T:=22) (t:=(.slice 5 (.int .u8))) (by kernel_rfl) (hval 0 22 v0 rfl rfl) h0
 clear hA0 hval0
 refine(UZ (P:=Tryz.prog) (E:=E) (Gp:=gt Tryz.prog vars) (I:=jY) (key:=3) gt.stable (by kernel_rfl) aaF Xx (by kernel_rfl) (uA.ofL (Dh m0)) (by kernel_rfl) (by kernel_rfl) (by kernel_rfl) (w:=W) (us:=[v0]) (aal hL hSh) (.cons (aaB e0 z0) (.nil))).mono fun e W' ⟨he,bel⟩ => ?_
 subst he
 exact⟨_,rfl,_,_,_,[],_,[],hW',trodAll_mk1 (shut_bool Tryz.underlying4 _),(trodAll_cons_mk (Below.trod aak (by kernel_rfl) (of_decide_eq_true (by kernel_rfl)) k0 bel lt0) trodAll_mk0),rfl,bel.frame _,fun h=>by cases h⟩
theorem abQ:laidOutB Tryz.pinned.checked.prog=true:=by kernel_rfl
theorem abR:(Rows.fnAllOrNothingRow.inPlace == Tryz.pinned.checked.prog.inPlace 3)=true:=by kernel_rfl
theorem abS:(Rows.fnAllOrNothingRow.unfollowed == Tryz.pinned.checked.prog.unfollowed 3)=true:=by kernel_rfl
theorem abT:(Rows.fnAllOrNothingRow.recurses == Tryz.pinned.checked.prog.recurses 3)=true:=by kernel_rfl
theorem abU:(Rows.fnAllOrNothingRow.named == Tryz.pinned.checked.prog.varsNamed 3)=true:=by kernel_rfl
theorem abV:Tryz.pinned.checked.prog.stopsHeard=true:=by kernel_rfl
theorem abW:Tryz.pinned.checked.prog.mayEnter=true:=by kernel_rfl
theorem abX:(Rows.fnAllOrNothingRow.lifted == Tryz.pinned.checked.prog.liftsFinal)=true:=by kernel_rfl
theorem abY:joinedFacts Tryz.pinned.checked.prog 3 Tryz.f3 Rows.fnAllOrNothingSpec Rows.fnAllOrNothingRow=true:=by
 rw[joinedFacts,abQ,abR,abS,abT,abU,abV,abW,abX]
 kernel_rfl
theorem aca:Rows.fnAllOrNothingRow.holds Tryz.pinned (OpenSpec.ofChange Rows.fnAllOrNothingSpec) :=
 OpenClaim.holds_of_wide 3 Tryz.f3 rfl rfl rfl rfl rfl rfl rfl ⟨rfl,rfl,rfl,rfl,rfl⟩ rfl rfl rfl rfl rfl (by kernel_rfl) Tryz.func3 abY
  (of_decide_eq_true (by kernel_rfl)) (by unfold Func.isWrapper; first | (rw[if_pos (by decide +kernel)]; kernel_rfl) | (rw[if_neg (by decide +kernel)]; exact⟨rfl,rfl⟩))
  (fun os started H enc _=>lifted os started H enc)
theorem abr:Rows.fnAllOrNothingRow.wfByText (.ofChange Rows.fnAllOrNothingSpec)=true:=by kernel_rfl
theorem mainIs:Tryz.pinned.checked.prog.mainIs=some (true, "9554c958d71b464eebac2baabb0a9b4070624fa717b295b47d44ce009779f483".toList):=by kernel_rfl
theorem aam:true=Tryz.pinned.checked.prog.looks []:=by kernel_rfl
theorem acb:Tryz.pinned.checked.prog.funcs.any Func.goes=false:=by kernel_rfl
theorem abs:false=Rows.fnAllOrNothingRow.goesBy Tryz.pinned.checked.prog:=Vg acb _
theorem YN:([22].all fun u => !Tryz.prog.wantsStandIn u)=true:=by kernel_rfl
theorem proved:Rows.FnAllOrNothingCardSaid :=
 Claim7.holds_tied_plain_at .later [] [.data,.data,.data,.data,.sentinel,.sentinel,.pinned] true (true, "9554c958d71b464eebac2baabb0a9b4070624fa717b295b47d44ce009779f483") true aca (fun _ h=>by cases h) abr (fun _ h=>by cases h) fnAllOrNothing_row_tie rfl ⟨rfl,rfl⟩ mainIs rfl
  (fun f fn hf hfn=>by
   obtain rfl:f=3:=Option.some.inj ((show Tryz.prog.funcNamed "loop.example/g00267/laws.FnAllOrNothing" = some 3 by kernel_rfl).symm.trans hf) |>.symm
   obtain rfl:fn=Tryz.f3:=(Option.some.inj (Tryz.func3.symm.trans hfn)).symm
   exact⟨aam,fun j t ht=>by
    rw[Tryz.params3] at ht
    have hm:t∈[22]:=by simpa using Array.mem_of_getElem? ht
    exact(show Tryz.prog.wantsStandIn t=false by simpa using List.all_eq_true.1 YN t hm)⟩)
  abs
#print axioms proved
end Go.Proofs.YthbkdfcmjmmpgaaGreatDoor.fnAllOrNothing
namespace Go.Proofs.YthbkdfcmjmmpgaaGreatDoor
theorem fnAllOrNothing_holds:Rows.FnAllOrNothingCardSaid:=fnAllOrNothing.proved
end Go.Proofs.YthbkdfcmjmmpgaaGreatDoor
