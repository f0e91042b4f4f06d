/- laws.FnUndone holds: whatever the input, it returns true and the input reads as it did. -/
import Derived.Test.YtddiiceaindlhaaGreatDoorRows
import Derived.Test.YtddiiceaindlhaaGreatDoorChecked
import Derived.Test.YtddiiceaindlhaaGreatDoorZEnv
import Derived.WalkKit
import Derived.ProofKit
import Derived.OpenShut
import Derived.ShutString
import Derived.ChangeOld
import Derived.Below
import Derived.SizedLaws
import Derived.Test.YtddiiceaindlhaaGreatDoorTie
import Derived.Test.YtddiiceaindlhaaGreatDoorCards
import Derived.LaidMore
import Derived.Stop.Joined
import Derived.LaidSub
import Derived.SevenTiedAt
import Derived.Lay
import Derived.Stop.LaidErr
import Derived.Test.YtddiiceaindlhaaGreatDoorZL1
import Derived.Test.YtddiiceaindlhaaGreatDoorZPLClr
namespace Go.Proofs.YtddiiceaindlhaaGreatDoor.fnUndone
open Go.ChangeShapes Go.WideShapes Go.ChangeAt Go.RowKit Go.Proofs.YtddiiceaindlhaaGreatDoor.Abs
set_option linter.unusedVariables false
theorem own:ownKnob Tryz.prog.godebug=none:=by kernel_rfl
theorem wQ:laidOutB Tryz.prog=true:=by kernel_rfl
theorem tN (os:Os) (args:Array Value):laidMetH Tryz.prog Rows.fnUndoneRow.laid ((World.laidAll Tryz.prog os Rows.fnUndoneRow.laid).forCall (fun _ _=>0) ⟨#[],args,[]⟩).memory :=
 by rw[MakeChecks.laidMetH_plain _ _ _ (by kernel_rfl)]; exact laidMet_laidAll _ (by kernel_rfl) (by kernel_rfl)
theorem nR : "*" ++ "errors.errorString" = "*errors.errorString" := by decide
theorem q6 (u:TypeId) (h:Tryz.prog.typeName? 3 u=some "*errors.errorString"):u=262:=typeName_ptr_named (nm := "errors.errorString") (by rw[nR]; kernel_rfl) (by kernel_rfl) (by decide) u (by rw[nR]; exact h)
theorem j6 {W:World} (h:laidMetH Tryz.prog Rows.fnUndoneRow.laid W) : ∃ a,W.var? Tryz.prog "strconv.ErrSyntax" = some a ∧ ∃ tp p,a = #[.iface tp p]:=by
 have h2:laidMetH Tryz.prog [("strconv.ErrSyntax",Rows.laid_strconv_ErrSyntax)] W:=h.filter fun x=>x.1 == "strconv.ErrSyntax"
 rw[MakeChecks.laidMetH_plain _ _ _ (by kernel_rfl)] at h2
 obtain⟨a,s,hv,_⟩:=laid_sentinel (g:=0) (ti:=141) (tp:=262) (te:=264) (ts:=9) h2 (by kernel_rfl) (by kernel_rfl) Tryz.underlying141 q6 Tryz.underlying262 Tryz.underlying264 rfl rfl Tryz.underlying9 (by kernel_rfl) (by kernel_rfl)
 exact⟨_,hv,_,_,rfl⟩
theorem lu {W:World} (h:laidMetH Tryz.prog Rows.fnUndoneRow.laid W) : ∃ a,W.var? Tryz.prog "strconv.ErrRange" = some a ∧ ∃ tp p,a = #[.iface tp p]:=by
 have h2:laidMetH Tryz.prog [("strconv.ErrRange",Rows.laid_strconv_ErrRange)] W:=h.filter fun x=>x.1 == "strconv.ErrRange"
 rw[MakeChecks.laidMetH_plain _ _ _ (by kernel_rfl)] at h2
 obtain⟨a,s,hv,_⟩:=laid_sentinel (g:=1) (ti:=141) (tp:=262) (te:=264) (ts:=9) h2 (by kernel_rfl) (by kernel_rfl) Tryz.underlying141 q6 Tryz.underlying262 Tryz.underlying264 rfl rfl Tryz.underlying9 (by kernel_rfl) (by kernel_rfl)
 exact⟨_,hv,_,_,rfl⟩
theorem pe {W:World} (h:laidMetH Tryz.prog Rows.fnUndoneRow.laid W) : ∃ a,W.var? Tryz.prog "internal/strconv.uint64pow10" = some a∧a=(Lib.pow10Tab.map fun z=>Value.int .u64 z).toArray:=by
 have h2:laidMetH Tryz.prog [("internal/strconv.uint64pow10",Lib.tabData .u64 Lib.pow10Tab)] W:=h.filter fun x=>x.1 == "internal/strconv.uint64pow10"
 rw[MakeChecks.laidMetH_plain _ _ _ (by kernel_rfl)] at h2
 have h3:Lib.TabIs Tryz.prog W "internal/strconv.uint64pow10" .u64 Lib.pow10Tab:=Lib.tabIs_of_head (g:=2) (t:=267) (e:=170) (n:=20) (by kernel_rfl) (by kernel_rfl) Tryz.underlying267 Tryz.underlying170 (by kernel_rfl) (by kernel_rfl) h2
 exact⟨_,h3,rfl⟩
theorem wR {W:World} (h:laidMetH Tryz.prog Rows.fnUndoneRow.laid W) (hs:W.ShapedOpen Tryz.prog):dJ Tryz.prog vars W (kw [] fun _=>none):=by
 intro p hp
 unfold vars at hp
 rcases List.mem_cons.1 hp with rfl | hp
 ·exact⟨j6 h,fun _ _ hx=>by obtain⟨_,_,hx,_⟩:=hx; cases hx⟩
 rcases List.mem_cons.1 hp with rfl | hp
 ·exact⟨lu h,fun _ _ hx=>by obtain⟨_,_,hx,_⟩:=hx; cases hx⟩
 rcases List.mem_cons.1 hp with rfl | hp
 ·exact⟨pe h,fun _ _ hx=>by obtain⟨_,_,hx,_⟩:=hx; cases hx⟩
 rcases List.mem_cons.1 hp with rfl | hp
 ·exact⟨yX (g:=5) (by kernel_rfl) (vb hs),fun _ _ hx=>by obtain⟨_,_,hx,_⟩:=hx; cases hx⟩
 cases hp
set_option maxRecDepth 100000 in
theorem lifted (os:Os) (started:os.Started) (H:Type) (enc:TypeId×Value→H) :
  ReturnsInHanded {} Tryz.checked os 8 .any (fun w args=>(Rows.fnUndoneSpec.pre enc Tryz.prog Tryz.f8 Rows.fnUndoneRow.domain false w args∧laidMetH Tryz.prog Rows.fnUndoneRow.laid w)∧sizedMet enc Tryz.prog Tryz.f8 (OpenSpec.ofChange Rows.fnUndoneSpec) false w args) (Rows.fnUndoneSpec.post enc Tryz.prog Tryz.f8 false true false false):=by
 refine gj (C:=Tryz.checked) (X:=fun w _=>laidMetH Tryz.prog Rows.fnUndoneRow.laid w) (fun _ _ _ hh h=>h.of_heap hh) own started (by kernel_rfl) Tryz.func8
  (ChangeSpec.witness_shaped (enc:=enc) (C:=Tryz.checked) (os:=os) (X:=fun w _=>laidMetH Tryz.prog Rows.fnUndoneRow.laid w) false (World.laidAll Tryz.prog os Rows.fnUndoneRow.laid) #[.slice none 0 0] 8 (World.laidAll_os _ _ _) (World.shaped_of_ZipB (by kernel_rfl) (by kernel_rfl)) (by kernel_rfl) (by kernel_rfl) (by kernel_rfl) (tN os _)) ?_
 intro W base args ds gs before hval0 hW _ _ hL hSh _
 have hval : ∀(j:Nat) t v,Tryz.f8.params[j]? = some t→args[j]? = some v→Value.okWide Tryz.prog W .any base t v:=hval0
 have hW':=hW
 obtain⟨p,q,hA0,hV,rfl,hfz,hnd⟩:=hW
 have hA:DataW.TrodAll enc Tryz.prog W 0 (fun _=>true) true Tryz.f8.params.toList args.toList ds p:=hA0
 rw[Tryz.params8] at hA hval
 obtain⟨v0,vs0,d0,ds0,p0,q0,hargs,rfl,rfl,h0,r0⟩:=trodAll_cons hA
 obtain⟨rfl,rfl,rfl⟩:=trodAll_nil r0
 obtain rfl:args = #[v0]:=by cases args; simp_all
 obtain⟨rfl,rfl⟩:=trodVars_none hV
 have k0:=h0
 have lt0 : ∀ x∈p0,x.block < W.heap.size:=by obtain⟨m,hm⟩:=k0; exact DataW.trod_lt m _ _ _ hm
 obtain⟨y0,m0,e0,z0⟩:=IX (d:=9) (T:=44) (t:=(.slice 5 (.int .u8))) (by kernel_rfl) (hval 0 44 v0 rfl rfl) h0
 clear hA0 hval0
 refine(yW (P:=Tryz.prog) (E:=E) (Gp:=dJ Tryz.prog vars) (I:=uV) (key:=8) dJ.stable (by kernel_rfl) Jg Cp (by kernel_rfl) (pC.ofL (Ku m0)) (by kernel_rfl) (by kernel_rfl) (by kernel_rfl) (w:=W) (us:=[v0]) (wR hL hSh) (.cons (IY e0 z0) (.nil))).mono fun e W' ⟨he,bel⟩ => ?_
 subst he
 exact⟨_,rfl,_,_,_,[],_,[],hW',trodAll_mk1 (shut_bool Tryz.underlying4 _),(trodAll_cons_mk (Below.trod wQ (by kernel_rfl) (of_decide_eq_true (by kernel_rfl)) k0 bel lt0) trodAll_mk0),rfl,bel.frame _,fun h=>by cases h⟩
theorem EU:laidOutB Tryz.pinned.checked.prog=true:=by kernel_rfl
theorem EV:(Rows.fnUndoneRow.inPlace == Tryz.pinned.checked.prog.inPlace 8)=true:=by kernel_rfl
theorem EW:(Rows.fnUndoneRow.unfollowed == Tryz.pinned.checked.prog.unfollowed 8)=true:=by kernel_rfl
theorem EX:(Rows.fnUndoneRow.recurses == Tryz.pinned.checked.prog.recurses 8)=true:=by kernel_rfl
theorem EY:(Rows.fnUndoneRow.named == Tryz.pinned.checked.prog.varsNamed 8)=true:=by kernel_rfl
theorem EZ:Tryz.pinned.checked.prog.stopsHeard=true:=by kernel_rfl
theorem E0:Tryz.pinned.checked.prog.mayEnter=true:=by kernel_rfl
theorem E1:(Rows.fnUndoneRow.lifted == Tryz.pinned.checked.prog.liftsFinal)=true:=by kernel_rfl
theorem E2:joinedFacts Tryz.pinned.checked.prog 8 Tryz.f8 Rows.fnUndoneSpec Rows.fnUndoneRow=true:=by
 rw[joinedFacts,EU,EV,EW,EX,EY,EZ,E0,E1]
 kernel_rfl
theorem Kv:Rows.fnUndoneRow.holds Tryz.pinned (OpenSpec.ofChange Rows.fnUndoneSpec) :=
 OpenClaim.holds_of_wide 8 Tryz.f8 rfl rfl rfl rfl rfl rfl rfl ⟨rfl,rfl,rfl,rfl,rfl⟩ rfl rfl rfl rfl rfl (by kernel_rfl) Tryz.func8 E2
  (of_decide_eq_true (by kernel_rfl)) (by unfold Func.isWrapper; first | (rw[if_pos (by decide +kernel)]; kernel_rfl) | (rw[if_neg (by decide +kernel)]; exact⟨rfl,rfl⟩))
  (fun os started H enc _=>lifted os started H enc)
theorem Al:Rows.fnUndoneRow.wfByText (.ofChange Rows.fnUndoneSpec)=true:=by kernel_rfl
theorem mainIs:Tryz.pinned.checked.prog.mainIs=some (true, "d5b0e728e656644dec81cefc0219d5bcd9d73c55bac59883d8e88a1a10b0395c".toList):=by kernel_rfl
theorem wS:true=Tryz.pinned.checked.prog.looks []:=by kernel_rfl
theorem Am:false=Rows.fnUndoneRow.goesBy Tryz.pinned.checked.prog:=by kernel_rfl
theorem tO:([44].all fun u => !Tryz.prog.wantsStandIn u)=true:=by kernel_rfl
theorem proved:Rows.FnUndoneCardSaid :=
 Claim7.holds_tied_plain_at .later [] [.data,.data,.data,.data,.sentinel,.sentinel,.pinned] true (true, "d5b0e728e656644dec81cefc0219d5bcd9d73c55bac59883d8e88a1a10b0395c") true Kv (fun _ h=>by cases h) Al (fun _ h=>by cases h) fnUndone_row_tie rfl ⟨rfl,rfl⟩ mainIs rfl
  (fun f fn hf hfn=>by
   obtain rfl:f=8:=Option.some.inj ((show Tryz.prog.funcNamed "loop.example/g00267/laws.FnUndone" = some 8 by kernel_rfl).symm.trans hf) |>.symm
   obtain rfl:fn=Tryz.f8:=(Option.some.inj (Tryz.func8.symm.trans hfn)).symm
   exact⟨wS,fun j t ht=>by
    rw[Tryz.params8] at ht
    have hm:t∈[44]:=by simpa using Array.mem_of_getElem? ht
    exact(show Tryz.prog.wantsStandIn t=false by simpa using List.all_eq_true.1 tO t hm)⟩)
  Am
#print axioms proved
end Go.Proofs.YtddiiceaindlhaaGreatDoor.fnUndone
namespace Go.Proofs.YtddiiceaindlhaaGreatDoor
theorem fnUndone_holds:Rows.FnUndoneCardSaid:=fnUndone.proved
end Go.Proofs.YtddiiceaindlhaaGreatDoor
