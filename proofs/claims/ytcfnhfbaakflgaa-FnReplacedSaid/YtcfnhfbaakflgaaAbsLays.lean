/- The library's contracts, laid at this program: slices.Clone, slices.SortFunc, strings.Compare; its functions that are shown otherwise. -/
import Derived.Shelf.SlSortCmp.NoneTotal
import Derived.Shelf.Small.Strs
import Derived.Test.YtcfnhfbaakflgaaAbsCloneAny
import Derived.Test.YtcfnhfbaakflgaaAbsSPrim
import Derived.Test.YtcfnhfbaakflgaaAbsPDisk5
import Derived.Test.YtcfnhfbaakflgaaProg
import Derived.KernelRfl
namespace Go.Proofs
open Go.Shelf Go.RowKit Go.Lib Go.Sort
def Try.clFile_ren : Go.Shelf.Ren := ⟨fun | 41 => 107 | n => n, fun | 22 => 32 | 23 => 88 | 4 => 4 | n => n, fun | n => n⟩
theorem Try.clFile : Go.Proofs.SlLaysE0.n41 Try.prog Try.clFile_ren := {
  mixed := by kernel_rfl
  f41 := ⟨Try.f107.name, by decide, Try.func107.trans (congrArg some (by kernel_rfl))⟩
  t4 := Try.underlying4
  a4 := Try.isAgg4
  z4 := Try.sizeOf4
  v4 := Try.zeroValue4
  t22 := Try.underlying32
  a22 := Try.isAgg32
  z22 := Try.sizeOf32
  v22 := Try.zeroValue32 }
def Try.clDOp_ren : Go.Shelf.Ren := ⟨fun | 41 => 108 | n => n, fun | 22 => 33 | 23 => 55 | 4 => 4 | n => n, fun | n => n⟩
theorem Try.clDOp : Go.Proofs.SlLaysE0.n41 Try.prog Try.clDOp_ren := {
  mixed := by kernel_rfl
  f41 := ⟨Try.f108.name, by decide, Try.func108.trans (congrArg some (by kernel_rfl))⟩
  t4 := Try.underlying4
  a4 := Try.isAgg4
  z4 := Try.sizeOf4
  v4 := Try.zeroValue4
  t22 := Try.underlying33
  a22 := Try.isAgg33
  z22 := Try.sizeOf33
  v22 := Try.zeroValue33 }
def Try.sortFile_ren : Go.Shelf.Ren := ⟨fun | 6 => 100 | 15 => 121 | 14 => 120 | 28 => 133 | 29 => 134 | 20 => 125 | 21 => 126 | 22 => 127 | 23 => 128 | 24 => 129 | 25 => 130 | 26 => 131 | 27 => 132 | 46 => 137 | 47 => 138 | 48 => 139 | 49 => 140 | 50 => 141 | 57 => 142 | n => n, fun | 22 => 32 | 24 => 88 | 25 => 114 | 3 => 3 | 39 => 68 | 0 => 0 | 53 => 75 | 55 => 130 | 4 => 4 | 46 => 134 | 45 => 133 | 50 => 138 | 5 => 5 | 9 => 9 | 66 => 143 | 70 => 146 | 76 => 148 | 77 => 149 | n => n, fun | n => n⟩
theorem Try.sortFile : Go.Proofs.SlLaysF0.n6 Try.prog Try.sortFile_ren := {
  mixed := by kernel_rfl
  f6 := ⟨Try.f100.name, by decide, Try.func100.trans (congrArg some (by kernel_rfl))⟩
  f14 := ⟨Try.f120.name, by decide, Try.func120.trans (congrArg some (by kernel_rfl))⟩
  f15 := Try.func121.trans (congrArg some (by kernel_rfl))
  f20 := ⟨Try.f125.name, by decide, Try.func125.trans (congrArg some (by kernel_rfl))⟩
  f21 := ⟨Try.f126.name, by decide, Try.func126.trans (congrArg some (by kernel_rfl))⟩
  f22 := ⟨Try.f127.name, by decide, Try.func127.trans (congrArg some (by kernel_rfl))⟩
  f23 := ⟨Try.f128.name, by decide, Try.func128.trans (congrArg some (by kernel_rfl))⟩
  f24 := ⟨Try.f129.name, by decide, Try.func129.trans (congrArg some (by kernel_rfl))⟩
  f25 := ⟨Try.f130.name, by decide, Try.func130.trans (congrArg some (by kernel_rfl))⟩
  f26 := ⟨Try.f131.name, by decide, Try.func131.trans (congrArg some (by kernel_rfl))⟩
  f27 := ⟨Try.f132.name, by decide, Try.func132.trans (congrArg some (by kernel_rfl))⟩
  f28 := Try.func133.trans (congrArg some (by kernel_rfl))
  f29 := Try.func134.trans (congrArg some (by kernel_rfl))
  f46 := ⟨Try.f137.name, by decide, Try.func137.trans (congrArg some (by kernel_rfl))⟩
  f47 := Try.func138.trans (congrArg some (by kernel_rfl))
  f48 := Try.func139.trans (congrArg some (by kernel_rfl))
  f49 := ⟨Try.f140.name, by decide, Try.func140.trans (congrArg some (by kernel_rfl))⟩
  f50 := ⟨Try.f141.name, by decide, Try.func141.trans (congrArg some (by kernel_rfl))⟩
  f57 := ⟨Try.f142.name, by decide, Try.func142.trans (congrArg some (by kernel_rfl))⟩
  t0 := Try.underlying0
  a0 := Try.isAgg0
  z0 := Try.sizeOf0
  v0 := Try.zeroValue0
  t3 := Try.underlying3
  a3 := Try.isAgg3
  z3 := Try.sizeOf3
  v3 := Try.zeroValue3
  t4 := Try.underlying4
  a4 := Try.isAgg4
  z4 := Try.sizeOf4
  v4 := Try.zeroValue4
  t5 := Try.underlying5
  a5 := Try.isAgg5
  z5 := Try.sizeOf5
  v5 := Try.zeroValue5
  t9 := Try.underlying9
  a9 := Try.isAgg9
  z9 := Try.sizeOf9
  v9 := Try.zeroValue9
  t22 := Try.underlying32
  a22 := Try.isAgg32
  z22 := Try.sizeOf32
  v22 := Try.zeroValue32
  t25 := Try.underlying114
  a25 := Try.isAgg114
  z25 := Try.sizeOf114
  v25 := Try.zeroValue114
  t39 := Try.underlying68
  a39 := Try.isAgg68
  z39 := Try.sizeOf68
  v39 := Try.zeroValue68
  t45 := Try.underlying133
  a45 := Try.isAgg133
  z45 := Try.sizeOf133
  v45 := Try.zeroValue133
  t46 := Try.underlying134
  a46 := Try.isAgg134
  z46 := Try.sizeOf134
  v46 := Try.zeroValue134
  t50 := Try.underlying138
  a50 := Try.isAgg138
  z50 := Try.sizeOf138
  v50 := Try.zeroValue138
  t53 := Try.underlying75
  a53 := Try.isAgg75
  z53 := Try.sizeOf75
  v53 := Try.zeroValue75
  t55 := Try.underlying130
  a55 := Try.isAgg130
  z55 := Try.sizeOf130
  v55 := Try.zeroValue130
  t66 := Try.underlying143
  a66 := Try.isAgg143
  z66 := Try.sizeOf143
  v66 := Try.zeroValue143
  t70 := Try.underlying146
  a70 := Try.isAgg146
  z70 := Try.sizeOf146
  v70 := Try.zeroValue146
  t76 := Try.underlying148
  a76 := Try.isAgg148
  z76 := Try.sizeOf148
  v76 := Try.zeroValue148
  t77 := Try.underlying149
  a77 := Try.isAgg149
  z77 := Try.sizeOf149
  v77 := Try.zeroValue149 }
def Try.cmpS_ren : Go.Shelf.Ren := ⟨fun | 106 => 102 | 213 => 122 | 265 => 135 | n => n, fun | 9 => 9 | 3 => 3 | n => n, fun | n => n⟩
theorem Try.cmpS : Go.Proofs.Lays.n106 Try.prog Try.cmpS_ren := {
  mixed := by kernel_rfl
  f106 := Try.func102.trans (congrArg some (by kernel_rfl))
  f213 := Try.func122.trans (congrArg some (by kernel_rfl))
  f265 := Try.func135.trans (congrArg some (by kernel_rfl))
  t3 := Try.underlying3
  a3 := Try.isAgg3
  z3 := Try.sizeOf3
  v3 := Try.zeroValue3
  t9 := Try.underlying9
  a9 := Try.isAgg9
  z9 := Try.sizeOf9
  v9 := Try.zeroValue9 }
set_option maxHeartbeats 1000000 in
/-- The closure by which the files are sorted. -/
theorem Ytcfnhfbaakflgaa.Abs.closure101 (a1 a2 b1 b2 : ByteArray) (W : World) : Calls Try.prog 101 #[.agg #[.string a1, .string a2], .agg #[.string b1, .string b2]] W fun e w' => e = .returned (.int .i64 (Lib.compareBytes a1.data.toList b1.data.toList)) ∧ ∃ q os', w' = grow (W.drewN q) os' := by
  have hcon := fun W' => Any.strings_Compare Try.cmpS a1 b1 W'
  change ∀ W', Calls Try.prog 102 _ _ _ at hcon
  generalize Lib.compareBytes a1.data.toList b1.data.toList = r at hcon ⊢
  go_enter Try.func101, Try.ntmps101
  go_wp2_with (go_at_call 102; refine (hcon _).mono ?_; rintro e w' ⟨rfl, rfl⟩)
  go_ret
  exact ⟨rfl, 0, _, by rw [alloc_eq_grow, alloc_eq_grow, grow_grow]; rfl⟩
end Go.Proofs
namespace Go.Proofs.Ytcfnhfbaakflgaa.Abs
open Go Go.Shelf Go.RowKit Go.Lib
theorem compare_lt : ∀ (a b : List UInt8), decide (Lib.compareBytes a b < 0) = Op.bytesLess a b
  | [], [] => rfl
  | [], _ :: _ => rfl
  | _ :: _, [] => rfl
  | a :: l, b :: m => by
    simp only [Lib.compareBytes, Op.bytesLess]
    by_cases h : a < b
    · simp [h]
    · by_cases h2 : b < a
      · have h3 : ¬ a = b := fun e => by rw [e] at h2; exact h (e ▸ h2)
        simp [h, h2, h3]
      · have h3 : a = b := UInt8.le_antisymm (UInt8.not_lt.1 h2) (UInt8.not_lt.1 h)
        subst h3
        simp only [h, if_false]
        rw [compare_lt l m]
        simp
def cfF (x y : tFile.den) : Int := Lib.compareBytes x.1.data.toList y.1.data.toList
theorem ltOf_eq : ltOf cfF = (ltF : tFile.den → tFile.den → Bool) := by
  funext x y
  show decide (Lib.compareBytes x.1.data.toList y.1.data.toList < 0) = ltS x.1 y.1
  rw [compare_lt]
  unfold ltS
  rw [ByteArray.toList_eq, ByteArray.toList_eq]
theorem cmpLays101 (blk off size : Nat) (w : World) : CmpLays Try.prog 101 #[] (encT tFile) 2 cfF blk off size w :=
  fun _ _ _ _ x y => closure101 x.1 x.2.1 y.1 y.2.1 _
set_option maxRecDepth 100000 in
theorem sort_ok : ∀ (args : List SV) (tab : Tab) (z : I100.sh.den × I100.bx.den), sortPrim 88 tFile 101 (fun a b => Op.bytesLess (ByteArray.toList a.1) (ByteArray.toList b.1)) args tab = some z → SoundAt Try.prog I100 args tab z := by
  refine sort_sound (P := Try.prog) (g := 100) (gc := 101) (fn := Try.f100) (e := 88) (t := tFile) (own := [true, false]) (live := []) rfl (by decide) swoF ?_ ?_
  · intro blk cap d w hH hblk hsz
    have eg : ∀ args w, (callFunc 101 args).run Try.prog w = .ok (.enter 101 args) w := enters_of Try.func101 (by kernel_rfl) rfl
    have h := AnyQ.slices_SortFunc_eq Try.sortFile 2 Try.isAgg88 Try.sizeOf88 (encT tFile) (fun x => enc_len rfl x) (fun x => enc_one rfl x) cfF (by rw [ltOf_eq]; exact swoF) 101 #[] blk 0 cap d w eg (cmpLays101 blk 0 d.size w) hH hblk hsz
    rw [ltOf_eq] at h
    exact h
  · exact fun p cap fv w => AnyF.slices_SortFunc_none { Try.sortFile with } p cap fv w
set_option maxRecDepth 100000 in
theorem clone_ok : ∀ (args : List SV) (tab : Tab) (z : I107.sh.den × I107.bx.den), clonePrim 88 tFile 32 args tab = some z → SoundAt Try.prog I107 args tab z := by
  refine clone_sound (P := Try.prog) (g := 107) (nb := 32) (fn := Try.f107) (e := 88) (t := tFile) (own := []) (live := []) rfl (by decide) (by decide) ?_ ?_
  · exact fun n c w => AnyE.slices_Clone_nil Try.clFile n c w
  · exact fun a n c news w h1 h2 h3 h4 h5 => clone_any Try.clFile _ _ 2 32 rfl rfl (by kernel_rfl) (by kernel_rfl) (by kernel_rfl) (by decide) Try.sizeOf88 a n c news w h1 h2 h3 h4 h5
set_option maxRecDepth 100000 in
theorem clone_okO : ∀ (args : List SV) (tab : Tab) (z : I108.sh.den × I108.bx.den), clonePrim 55 tDOp 56 args tab = some z → SoundAt Try.prog I108 args tab z := by
  refine clone_sound (P := Try.prog) (g := 108) (nb := 56) (fn := Try.f108) (e := 55) (t := tDOp) (own := []) (live := []) rfl (by decide) (by decide) ?_ ?_
  · exact fun n c w => AnyE.slices_Clone_nil Try.clDOp n c w
  · exact fun a n c news w h1 h2 h3 h4 h5 => clone_any Try.clDOp _ _ 4 56 rfl rfl (by kernel_rfl) (by kernel_rfl) (by kernel_rfl) (by decide) Try.sizeOf55 a n c news w h1 h2 h3 h4 h5
end Go.Proofs.Ytcfnhfbaakflgaa.Abs
