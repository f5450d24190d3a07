/- A state that no call made. -/
import Derived.Test.YtcogfonmkfcejaaDoorProg
import Derived.WalkKit
import Derived.WalkSpells
import Derived.WalkLawsBesides
import Derived.Deep.Draws
import Derived.Deep.QuietTactic
import Derived.BigQuiet
import Derived.Lib.Hide
import Derived.Outline
import Derived.StillTailTactics
import Derived.Maps.Own
import Derived.Maps.OwnOps
import Derived.Maps.RangeWalk
import Derived.Shelf.SlMaps.Clone
set_option linter.unusedVariables false
set_option linter.unusedSimpArgs false
namespace Go.Proofs.YtcogfonmkfcejaaDoor
open Go.RowKit Go.Maps

def NoneIs (p : Value) (b : Bool) (w : World) : Prop := Calls Tryd.prog 15 #[p] w fun e w' => e = .returned (.bool b) ∧ w = w'
set_option maxHeartbeats 400000 in
theorem none_nil (w : World) : NoneIs (.pointer none) true w := by
  unfold NoneIs
  go_enter Tryd.func15, Tryd.ntmps15
  go_wp2
  go_ret
  exact ⟨rfl, rfl⟩
set_option maxHeartbeats 400000 in
theorem none_empty (s : Nat) (w : World) (h0 : w.cell? ⟨s, 0, none⟩ = some (.map none)) : NoneIs (.pointer (some ⟨s, 0, none⟩)) true w := by
  have hq := run_eql_map_nil_sl (P := Tryd.prog) w 34 _ _ none Tryd.underlying34
  unfold NoneIs
  go_enter Tryd.func15, Tryd.ntmps15
  go_wp2
  go_ret
  exact ⟨rfl, rfl⟩
set_option maxHeartbeats 400000 in
theorem none_made (s b : Nat) (w : World) (h0 : w.cell? ⟨s, 0, none⟩ = some (.map (some b))) : NoneIs (.pointer (some ⟨s, 0, none⟩)) false w := by
  have hq := run_eql_map_nil_sl (P := Tryd.prog) w 34 _ _ (some b) Tryd.underlying34
  unfold NoneIs
  go_enter Tryd.func15, Tryd.ntmps15
  go_wp2
  go_ret
  exact ⟨rfl, rfl⟩
set_option maxHeartbeats 400000 in
theorem value_none (p k : Value) (w : World) (h : NoneIs p true w) : Calls Tryd.prog 12 #[p, k] w fun e w' => e = .returned (.tuple #[.int .i64 0, .bool false]) ∧ w = w' := by
  unfold NoneIs at h
  have A := Lib.hid h
  clear h
  go_enter Tryd.func12, Tryd.ntmps12
  go_wp2_with fail
  refine A.out.mono ?_
  rintro e w' ⟨rfl, rfl⟩
  go_wp2
  go_ret2
  exact ⟨rfl, rfl⟩
set_option maxHeartbeats 400000 in
theorem list_none (p k : Value) (w : World) (h : NoneIs p true w) : Calls Tryd.prog 13 #[p, k] w fun e w' => e = .returned (.slice none 0 0) ∧ w = w' := by
  unfold NoneIs at h
  have A := Lib.hid h
  clear h
  go_enter Tryd.func13, Tryd.ntmps13
  go_wp2_with fail
  refine A.out.mono ?_
  rintro e w' ⟨rfl, rfl⟩
  go_wp2
  go_ret
  exact ⟨rfl, rfl⟩
set_option maxHeartbeats 400000 in
theorem copy_none (p : Value) (w : World) (h : NoneIs p true w) : Calls Tryd.prog 9 #[p] w fun e w' => e = .returned (.pointer none) ∧ w = w' := by
  unfold NoneIs at h
  have A := Lib.hid h
  clear h
  go_enter Tryd.func9, Tryd.ntmps9
  go_wp2_with fail
  refine A.out.mono ?_
  rintro e w' ⟨rfl, rfl⟩
  go_wp2
  go_ret
  exact ⟨rfl, rfl⟩
set_option maxHeartbeats 400000 in
theorem apply_none (p l b : Value) (w : World) (h : NoneIs p true w) : Calls Tryd.prog 10 #[p, l, b] w fun e w' => e = .returned (.bool false) ∧ w = w' := by
  unfold NoneIs at h
  have A := Lib.hid h
  clear h
  go_enter Tryd.func10, Tryd.ntmps10
  go_wp2_with fail
  refine A.out.mono ?_
  rintro e w' ⟨rfl, rfl⟩
  go_wp2
  go_ret
  exact ⟨rfl, rfl⟩
set_option maxHeartbeats 400000 in
theorem text_none (p : Value) (w : World) (h : NoneIs p true w) : Calls Tryd.prog 7 #[p] w fun e w' => e = .returned (.string ⟨#[]⟩) ∧ w = w' := by
  unfold NoneIs at h
  have A := Lib.hid h
  clear h
  go_enter Tryd.func7, Tryd.ntmps7
  go_wp2_with fail
  refine A.out.mono ?_
  rintro e w' ⟨rfl, rfl⟩
  go_wp2
  go_ret
  exact ⟨rfl, rfl⟩

def Tryd.cloneR_ren : Go.Shelf.Ren := ⟨fun | 5 => 27 | 7 => 38 | n => n, fun | 23 => 35 | 25 => 9 | 3 => 3 | 4 => 4 | 20 => 20 | n => n, fun | n => n⟩
theorem Tryd.cloneR : Go.Proofs.SlLaysW.n5 Tryd.prog Tryd.cloneR_ren := {
  mixed := by kernel_rfl
  f5 := ⟨Tryd.f27.name, by decide, Tryd.func27.trans (congrArg some (by kernel_rfl))⟩
  f7 := Tryd.func38.trans (congrArg some (by kernel_rfl))
  t4 := Tryd.underlying4
  a4 := Tryd.isAgg4
  z4 := Tryd.sizeOf4
  v4 := Tryd.zeroValue4
  t20 := Tryd.underlying20
  a20 := Tryd.isAgg20
  z20 := Tryd.sizeOf20
  v20 := Tryd.zeroValue20
  t23 := Tryd.underlying35
  a23 := Tryd.isAgg35
  z23 := Tryd.sizeOf35
  v23 := Tryd.zeroValue35 }
end Go.Proofs.YtcogfonmkfcejaaDoor
