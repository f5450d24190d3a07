/- Nothing applied to a new state; the law of states that no call made. -/
import Derived.Test.YtcogfonmkfcejaaDoorNb
import Derived.Great.BuildSlice
import Derived.Laws.Rows
import Derived.Deep.WholeRow
import Derived.Laws.CopyOwn
set_option linter.unusedVariables false
set_option linter.unusedSimpArgs false
namespace Go.Proofs.YtcogfonmkfcejaaDoor
open Go.RowKit Go.Maps

def doesV (c : Nat) : Array Value := #[.func (.func 40) #[] #[], .func (.func 41) #[.pointer (some ⟨c, 0, none⟩)] #[], .func (.func 40) #[] #[], .func (.func 42) #[.pointer (some ⟨c, 0, none⟩)] #[], .func (.func 40) #[] #[]]
theorem size70 (c : Nat) : (Tryd.prog.info? 70).map (·.size) = some (doesV c).size := by kernel_rfl
theorem ones70 (c : Nat) : ((doesV c).all fun x => x.oneCell') = true := by simp [doesV, Value.oneCell']
set_option maxHeartbeats 400000 in
theorem does_in (c : Nat) (w : World) : Calls Tryd.prog 29 #[.pointer (some ⟨c, 0, none⟩)] w fun e w' => e = .returned (.agg (doesV c)) ∧ Below w.heap.size w w' := by
  go_enter Tryd.func29, Tryd.ntmps29
  go_wp2_with (refine wpList_store_rowTo rfl 70 _ _ rfl rfl w.heap.size (doesV c) ?h1 ?h2 70 #[.nilFunc, .nilFunc, .nilFunc, .nilFunc, .nilFunc] ?h3 (size70 c) ?h4 ?h5 ?h6)
  case h1 => rfl
  case h2 => rfl
  case h3 => exact heap_alloc_new _ _
  case h4 => rfl
  case h5 => exact ones70 c
  rw [World.setRow_alloc_new]
  refine bodyPost_ret (results_cell_row rfl _ _ w.heap.size 70 (doesV c) (0, 0) _ rfl (heap_alloc_new _ _) Tryd.underlying70 rfl (size70 c)) rfl ?_
  exact ⟨rfl, (Below.refl _ _).alloc (Nat.le_refl _) _⟩

set_option maxHeartbeats 1000000 in
theorem apply_new (s a b B : Nat) (w : World) (h : Fresh w s a b) (hB : B ≤ w.heap.size) (hs : B ≤ s) :
    Calls Tryd.prog 10 #[.pointer (some ⟨s, 0, none⟩), .slice none 0 0, .bool false] w fun e w' => e = .returned (.bool true) ∧ Below B w w' := by
  have A := Lib.hid (And.intro (none_made s a w h.c0) (And.intro (copy_new s a b w h) h))
  clear h
  go_enter Tryd.func10, Tryd.ntmps10
  go_wp2_with fail
  refine A.out.1.mono ?_
  rintro e w' ⟨rfl, rfl⟩
  go_wp2_with fail
  refine A.out.2.1.mono ?_
  rintro e w1 ⟨c, a', b', rfl, hc, hb1, hf⟩
  have C := Lib.hid (And.intro hb1 hf)
  clear hb1 hf
  go_wp2_with fail
  refine (does_in c w1).mono ?_
  rintro e w2 ⟨rfl, hb2⟩
  have D := Lib.hid hb2
  clear hb2
  go_wp2_with (refine wpList_store_rowTo rfl 70 _ _ rfl rfl w2.heap.size (doesV c) ?h1 ?h2 70 #[.nilFunc, .nilFunc, .nilFunc, .nilFunc, .nilFunc] ?h3 (size70 c) ?h4 ?h5 ?h6)
  case h1 => rfl
  case h2 => rfl
  case h3 => exact heap_alloc_new _ _
  case h4 => rfl
  case h5 => exact ones70 c
  rw [World.setRow_alloc_new]
  have hB' : ∀ {x : World}, Below w2.heap.size w2 x → Below B w x := fun h => by
    have h1 := C.out.1
    have h2 := D.out
    have s1 := h1.size
    have s2 := h2.size
    exact ((h1.trans (h2.mono s1)).trans (h.mono (by omega))).mono hB
  have E := Lib.hid (show Below w2.heap.size w2 (w2.alloc (.cells (doesV c) 70)) from (Below.refl _ _).alloc (Nat.le_refl _) _)
  have hF := ((A.out.2.2.below C.out.1).below D.out).below E.out
  have hC := (C.out.2.below D.out).below E.out
  have c0 := hC.c0
  have c1 := hC.c1
  have d0 := hF.c0
  have d1 := hF.c1
  have f0 := hF.free 0
  have f1 := hF.free 1
  clear hF hC
  go_wp2
  go_loopw [22] (fun u wr => u = .int .i64 0 ∧ wr = w2.alloc (.cells (doesV c) 70)) (fun u _ => 0)
  case atStart => exact ⟨rfl, rfl⟩
  case round =>
    obtain ⟨rfl, rfl⟩ := hrel
    go_wp2
    go_ret
    exact ⟨rfl, (((hB' E.out).setCell hs _).setCell hs _)⟩
end Go.Proofs.YtcogfonmkfcejaaDoor
