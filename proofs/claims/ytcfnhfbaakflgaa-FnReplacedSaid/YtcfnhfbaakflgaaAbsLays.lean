/- The library's contracts, laid at this program: slices.Clone, slices.SortFunc, strings.Compare; its functions that are shown otherwise. -/
import Derived.Shelf.SlSortCmp.NoneTotal
import Derived.Shelf.Small.Strs
import Derived.Shelf.Lay
import Derived.Shelf.SlGeneric
import Derived.Ground.SlgnProg
import Derived.Ground.SlsfProg
import Derived.Ground.NamesProg
import Derived.Test.YtcfnhfbaakflgaaAbsCloneAny
import Derived.Test.YtcfnhfbaakflgaaAbsSPrim
import Derived.Test.YtcfnhfbaakflgaaAbsPDisk5
import Derived.Test.YtcfnhfbaakflgaaProg
import Derived.KernelRfl
namespace Go.Proofs
open Go.Shelf Go.RowKit Go.Lib Go.Sort
shelf_lay_g SlLaysE0.n41 Slgn 41 at Try 107 as Try.clFile
shelf_lay_g SlLaysE0.n41 Slgn 41 at Try 108 as Try.clDOp
shelf_lay_g SlLaysF0.n6 Slsf 6 at Try 100 as Try.sortFile
shelf_lay Lays.n106 Nm 106 at Try as Try.cmpS
set_option maxHeartbeats 1000000 in
/-- The closure by which the files are sorted. -/
theorem Ytcfnhfbaakflgaa.Abs.closure101 (a1 a2 b1 b2 : ByteArray) (W : World) : Calls Try.prog 101 #[.agg #[.string a1, .string a2], .agg #[.string b1, .string b2]] W fun e w' => e = .returned (.int .i64 (Lib.compareBytes a1.data.toList b1.data.toList)) ∧ ∃ q os', w' = grow (W.drewN q) os' := by
  have hcon := fun W' => Any.strings_Compare Try.cmpS a1 b1 W'
  change ∀ W', Calls Try.prog 102 _ _ _ at hcon
  generalize Lib.compareBytes a1.data.toList b1.data.toList = r at hcon ⊢
  go_enter Try.func101, Try.ntmps101
  go_wp2_with (go_at_call 102; refine (hcon _).mono ?_; rintro e w' ⟨rfl, rfl⟩)
  go_ret
  exact ⟨rfl, 0, _, by rw [alloc_eq_grow, alloc_eq_grow, grow_grow]; rfl⟩
end Go.Proofs
namespace Go.Proofs.Ytcfnhfbaakflgaa.Abs
open Go Go.Shelf Go.RowKit Go.Lib
theorem compare_lt : ∀ (a b : List UInt8), decide (Lib.compareBytes a b < 0) = Op.bytesLess a b
  | [], [] => rfl
  | [], _ :: _ => rfl
  | _ :: _, [] => rfl
  | a :: l, b :: m => by
    simp only [Lib.compareBytes, Op.bytesLess]
    by_cases h : a < b
    · simp [h]
    · by_cases h2 : b < a
      · have h3 : ¬ a = b := fun e => by rw [e] at h2; exact h (e ▸ h2)
        simp [h, h2, h3]
      · have h3 : a = b := UInt8.le_antisymm (UInt8.not_lt.1 h2) (UInt8.not_lt.1 h)
        subst h3
        simp only [h, if_false]
        rw [compare_lt l m]
        simp
def cfF (x y : tFile.den) : Int := Lib.compareBytes x.1.data.toList y.1.data.toList
theorem ltOf_eq : ltOf cfF = (ltF : tFile.den → tFile.den → Bool) := by
  funext x y
  show decide (Lib.compareBytes x.1.data.toList y.1.data.toList < 0) = ltS x.1 y.1
  rw [compare_lt]
  unfold ltS
  rw [ByteArray.toList_eq, ByteArray.toList_eq]
theorem cmpLays101 (blk off size : Nat) (w : World) : CmpLays Try.prog 101 #[] (encT tFile) 2 cfF blk off size w :=
  fun _ _ _ _ x y => closure101 x.1 x.2.1 y.1 y.2.1 _
set_option maxRecDepth 100000 in
theorem sort_ok : ∀ (args : List SV) (tab : Tab) (z : I100.sh.den × I100.bx.den), sortPrim 88 tFile 101 (fun a b => Op.bytesLess (ByteArray.toList a.1) (ByteArray.toList b.1)) args tab = some z → SoundAt Try.prog I100 args tab z := by
  refine sort_sound (P := Try.prog) (g := 100) (gc := 101) (fn := Try.f100) (e := 88) (t := tFile) (own := [true, false]) (live := []) rfl (by decide) swoF ?_ ?_
  · intro blk cap d w hH hblk hsz
    have eg : ∀ args w, (callFunc 101 args).run Try.prog w = .ok (.enter 101 args) w := enters_of Try.func101 (by kernel_rfl) rfl
    have h := AnyQ.slices_SortFunc_eq Try.sortFile 2 Try.isAgg88 Try.sizeOf88 (encT tFile) (fun x => enc_len rfl x) (fun x => enc_one rfl x) cfF (by rw [ltOf_eq]; exact swoF) 101 #[] blk 0 cap d w eg (cmpLays101 blk 0 d.size w) hH hblk hsz
    rw [ltOf_eq] at h
    exact h
  · exact fun p cap fv w => AnyF.slices_SortFunc_none { Try.sortFile with } p cap fv w
set_option maxRecDepth 100000 in
theorem clone_ok : ∀ (args : List SV) (tab : Tab) (z : I107.sh.den × I107.bx.den), clonePrim 88 tFile 32 args tab = some z → SoundAt Try.prog I107 args tab z := by
  refine clone_sound (P := Try.prog) (g := 107) (nb := 32) (fn := Try.f107) (e := 88) (t := tFile) (own := []) (live := []) rfl (by decide) (by decide) ?_ ?_
  · exact fun n c w => AnyE.slices_Clone_nil Try.clFile n c w
  · exact fun a n c news w h1 h2 h3 h4 h5 => clone_any Try.clFile _ _ 2 32 rfl rfl (by kernel_rfl) (by kernel_rfl) (by kernel_rfl) (by decide) Try.sizeOf88 a n c news w h1 h2 h3 h4 h5
set_option maxRecDepth 100000 in
theorem clone_okO : ∀ (args : List SV) (tab : Tab) (z : I108.sh.den × I108.bx.den), clonePrim 55 tDOp 56 args tab = some z → SoundAt Try.prog I108 args tab z := by
  refine clone_sound (P := Try.prog) (g := 108) (nb := 56) (fn := Try.f108) (e := 55) (t := tDOp) (own := []) (live := []) rfl (by decide) (by decide) ?_ ?_
  · exact fun n c w => AnyE.slices_Clone_nil Try.clDOp n c w
  · exact fun a n c news w h1 h2 h3 h4 h5 => clone_any Try.clDOp _ _ 4 56 rfl rfl (by kernel_rfl) (by kernel_rfl) (by kernel_rfl) (by decide) Try.sizeOf55 a n c news w h1 h2 h3 h4 h5
end Go.Proofs.Ytcfnhfbaakflgaa.Abs
