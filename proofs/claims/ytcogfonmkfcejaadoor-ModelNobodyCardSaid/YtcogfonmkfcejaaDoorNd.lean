/- The law of states that no call made. -/
import Derived.Test.YtcogfonmkfcejaaDoorNc
set_option linter.unusedVariables false
set_option linter.unusedSimpArgs false
namespace Go.Proofs.YtcogfonmkfcejaaDoor
open Go.RowKit Go.Maps

def Holds (w : World) (e : Ending) (w' : World) : Prop := e = .returned (.bool true) ∧ Below w.heap.size w w'
set_option maxHeartbeats 1000000 in
theorem nobody_in (k : ByteArray) (w : World) : Calls Tryd.prog 5 #[.string k] w (Holds w) := by
  go_enter Tryd.func5, Tryd.ntmps5
  go_wp2
  have hbW := Lib.hid (show Below w.heap.size w ((w.alloc (.cells #[.map none, .map none] 37)).alloc (.cells #[.pointer none, .pointer (some ⟨w.heap.size, 0, none⟩)] 23)) from ((Below.refl _ _).alloc (Nat.le_refl _) _).alloc (by simp) _)
  have hsz : (w.alloc (.cells #[.map none, .map none] 37)).heap.size = w.heap.size + 1 := by simp
  have r1 : ((w.alloc (.cells #[.map none, .map none] 37)).alloc (.cells #[.pointer none, .pointer (some ⟨w.heap.size, 0, none⟩)] 23)).heap[w.heap.size + 1]? = some (.cells #[.pointer none, .pointer (some ⟨w.heap.size, 0, none⟩)] 23 (0, 0)) := by
    rw [← hsz]; exact heap_alloc_new _ _
  have r0 : ((w.alloc (.cells #[.map none, .map none] 37)).alloc (.cells #[.pointer none, .pointer (some ⟨w.heap.size, 0, none⟩)] 23)).heap[w.heap.size]? = some (.cells #[.map none, .map none] 37 (0, 0)) := by
    rw [Below.heap_alloc _ _ _ (by omega)]; exact heap_alloc_new _ _
  generalize ((w.alloc (.cells #[.map none, .map none] 37)).alloc (.cells #[.pointer none, .pointer (some ⟨w.heap.size, 0, none⟩)] 23)) = W at *
  have p0 : W.cell? ⟨w.heap.size + 1, 0, none⟩ = some (.pointer none) := by rw [cell_of_row W _ 0 _ _ _ r1]; rfl
  have p1 : W.cell? ⟨w.heap.size + 1, 1, none⟩ = some (.pointer (some ⟨w.heap.size, 0, none⟩)) := by rw [cell_of_row W _ 1 _ _ _ r1]; rfl
  have q0 : W.cell? ⟨w.heap.size, 0, none⟩ = some (.map none) := by rw [cell_of_row W _ 0 _ _ _ r0]; rfl
  have Q := Lib.hid (And.intro r0 r1)
  clear r0 r1 hsz
  go_loopw [11] (fun u wr => (u = .int .i64 0 ∨ u = .int .i64 1 ∨ u = .int .i64 2) ∧ W = wr) (fun u _ => 2 - (intOf u).toNat)
  case atStart => exact ⟨.inl rfl, rfl⟩
  case round =>
    obtain ⟨rfl | rfl | rfl, rfl⟩ := hrel
    ·
      have A := Lib.hid (none_nil W)
      go_wp2_with fail
      refine (value_none (.pointer none) _ W A.out).mono ?_
      rintro e w' ⟨rfl, rfl⟩
      go_wp2_with fail
      refine (apply_none (.pointer none) _ _ W A.out).mono ?_
      rintro e w' ⟨rfl, rfl⟩
      go_wp2_with fail
      refine (list_none (.pointer none) _ W A.out).mono ?_
      rintro e w' ⟨rfl, rfl⟩
      go_wp2_with fail
      refine (text_none (.pointer none) W A.out).mono ?_
      rintro e w' ⟨rfl, rfl⟩
      go_wp2_with fail
      refine (copy_none (.pointer none) W A.out).mono ?_
      rintro e w' ⟨rfl, rfl⟩
      go_wp2
      go_roundw
      case rel => exact ⟨.inr (.inl (by go_num)), trivial⟩
      case measure => simp [intOf]
    ·
      have A := Lib.hid (none_empty _ W q0)
      go_wp2_with fail
      refine (value_none (.pointer (some ⟨w.heap.size, 0, none⟩)) _ W A.out).mono ?_
      rintro e w' ⟨rfl, rfl⟩
      go_wp2_with fail
      refine (apply_none (.pointer (some ⟨w.heap.size, 0, none⟩)) _ _ W A.out).mono ?_
      rintro e w' ⟨rfl, rfl⟩
      go_wp2_with fail
      refine (list_none (.pointer (some ⟨w.heap.size, 0, none⟩)) _ W A.out).mono ?_
      rintro e w' ⟨rfl, rfl⟩
      go_wp2_with fail
      refine (text_none (.pointer (some ⟨w.heap.size, 0, none⟩)) W A.out).mono ?_
      rintro e w' ⟨rfl, rfl⟩
      go_wp2_with fail
      refine (copy_none (.pointer (some ⟨w.heap.size, 0, none⟩)) W A.out).mono ?_
      rintro e w' ⟨rfl, rfl⟩
      go_wp2
      go_roundw
      case rel => exact ⟨.inr (.inr (by go_num)), trivial⟩
      case measure => simp [intOf]
    · go_wp2_with fail
      refine (new_in W).mono ?_
      rintro e w1 ⟨s, a, b, rfl, hs, hb1, hf⟩
      have B := Lib.hid (And.intro hb1 hf)
      clear hb1 hf
      go_wp2_with fail
      refine (apply_new s a b W.heap.size w1 B.out.2 B.out.1.size hs).mono ?_
      rintro e w2 ⟨rfl, hb2⟩
      have C := Lib.hid hb2
      clear hb2
      go_wp2
      go_ret
      exact ⟨rfl, hbW.out.trans ((B.out.1.trans C.out).mono hbW.out.size)⟩
end Go.Proofs.YtcogfonmkfcejaaDoor
