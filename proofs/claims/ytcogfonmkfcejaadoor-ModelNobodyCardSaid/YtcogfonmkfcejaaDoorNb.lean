/- A new state, copied, and what it comes to when nothing is applied. -/
import Derived.Test.YtcogfonmkfcejaaDoorNa
import Derived.Deep.RegionHeld3
set_option linter.unusedVariables false
set_option linter.unusedSimpArgs false
namespace Go.Proofs.YtcogfonmkfcejaaDoor
open Go.RowKit Go.Maps

theorem lt_of_some {w : World} {k : Nat} {o : Obj} (h : w.heap[k]? = some o) : k < w.heap.size := (Array.getElem?_eq_some_iff.1 h).1
/-- A state of two maps without entries. -/
structure Fresh (w : World) (s a b : Nat) : Prop where
  hdr : w.heap[s]? = some (.cells #[.map (some a), .map (some b)] 37 (0, 0))
  one : w.heap[a]? = some (.map #[] 0)
  two : w.heap[b]? = some (.map #[] 0)
theorem Fresh.below {w w' : World} {s a b : Nat} (h : Fresh w s a b) (hb : Below w.heap.size w w') : Fresh w' s a b :=
  ⟨(hb.block _ (lt_of_some h.hdr)).trans h.hdr, (hb.block _ (lt_of_some h.one)).trans h.one, (hb.block _ (lt_of_some h.two)).trans h.two⟩
theorem Fresh.c0 {w : World} {s a b : Nat} (h : Fresh w s a b) : w.cell? ⟨s, 0, none⟩ = some (.map (some a)) := by rw [cell_of_row w s 0 _ _ _ h.hdr]; rfl
theorem Fresh.c1 {w : World} {s a b : Nat} (h : Fresh w s a b) : w.cell? ⟨s, 1, none⟩ = some (.map (some b)) := by rw [cell_of_row w s 1 _ _ _ h.hdr]; rfl
theorem Fresh.free {w : World} {s a b : Nat} (h : Fresh w s a b) (i : Nat) : w.frozen? ⟨s, i, none⟩ = false := frozen_of_row w s i _ _ h.hdr
def NewState (w : World) (e : Ending) (w' : World) : Prop := ∃ s a b, e = .returned (.pointer (some ⟨s, 0, none⟩)) ∧ w.heap.size ≤ s ∧ Below w.heap.size w w' ∧ Fresh w' s a b

theorem below3 (w : World) (X Y Z : Obj) : Below w.heap.size w (((w.alloc X).alloc Y).alloc Z) :=
  (((Below.refl _ _).alloc (Nat.le_refl _) X).alloc (by simp) Y).alloc (by simp; omega) Z
theorem fresh_new (w : World) : Fresh (((w.alloc (.map #[] 0)).alloc (.map #[] 0)).alloc (.cells #[.map (some w.heap.size), .map (some (w.heap.size + 1))] 37)) (w.heap.size + 2) w.heap.size (w.heap.size + 1) := by
  have e1 : (w.alloc (.map #[] 0)).heap.size = w.heap.size + 1 := by simp
  have e2 : ((w.alloc (.map #[] 0)).alloc (.map #[] 0)).heap.size = w.heap.size + 2 := by simp
  refine ⟨?_, ?_, ?_⟩
  · rw [← e2]; exact heap_alloc_new _ _
  · rw [Below.heap_alloc _ _ _ (by omega), Below.heap_alloc _ _ _ (by omega)]; exact heap_alloc_new _ _
  · rw [Below.heap_alloc _ _ _ (by omega), ← e1]; exact heap_alloc_new _ _
set_option maxHeartbeats 400000 in
theorem makeMap_hint (w : World) : (Instr.makeMap 34 (some (.int .i64 0))).run Tryd.prog w = .ok (.map (some w.heap.size)) (w.alloc (.map #[] 0)) := by
  simp [Instr.makeMap, run_underlying Tryd.underlying34, asInt, asIntOf, Result.andThen]
set_option maxHeartbeats 400000 in
theorem new_in (w : World) : Calls Tryd.prog 14 #[] w (NewState w) := by
  have hmm := @run_makeMap Tryd.prog
  go_enter Tryd.func14, Tryd.ntmps14
  go_wp2
  go_ret
  exact ⟨_, _, _, rfl, by omega, below3 w _ _ _, fresh_new w⟩

theorem Fresh.len {w : World} {s a b : Nat} (h : Fresh w s a b) (ty : TypeId) : (Builtin.len_ #[34] ty #[.map (some a)]).run Tryd.prog w = .ok (.int .i64 0) w := by
  simp [Builtin.len_, run_underlying Tryd.underlying34, MapKept.run_getObj_map h.one, goInt, Result.andThen]
def AllOf (w : World) (s a b : Nat) : Prop := Fresh w s a b
theorem Fresh.all {w : World} {s a b : Nat} (h : Fresh w s a b) : Fresh w s a b ∧ w.cell? ⟨s, 0, none⟩ = some (.map (some a)) ∧ w.cell? ⟨s, 1, none⟩ = some (.map (some b)) ∧ ∀ ty, (Builtin.len_ #[34] ty #[.map (some a)]).run Tryd.prog w = .ok (.int .i64 0) w :=
  ⟨h, h.c0, h.c1, h.len⟩
def Cloned (w : World) (e : Ending) (w' : World) : Prop := ∃ m, e = .returned (.map (some m)) ∧ w.heap.size ≤ m ∧ w'.heap[m]? = some (.map #[] 0) ∧ Below w.heap.size w w'
theorem clone_in (b : Nat) (w : World) (hb : w.heap[b]? = some (.map #[] 0)) : Calls Tryd.prog 27 #[.map (some b)] w (Cloned w) := by
  have c := AnyW.maps_Clone Tryd.cloneR b #[] 0 w hb
  change Calls Tryd.prog 27 _ _ _ at c
  refine c.mono ?_
  rintro e w' ⟨rfl, rfl⟩
  exact ⟨_, rfl, Nat.le_refl _, heap_alloc_new _ _, (Below.refl _ _).alloc (Nat.le_refl _) _⟩

theorem law9 : Keyed Tryd.prog 9 := string_keyed Tryd.underlying9
theorem Fresh.owns {w : World} {s a b : Nat} (h : Fresh w s a b) {k : TypeId} {R : Value → Option (DataW Unit × List MemPlace)} : w.ownsMap Tryd.prog k R a 0 (.map []) :=
  ⟨#[], 0, h.one, ⟨by simp, MapKept.stamped_empty 0, by simp⟩, Nat.le_refl _, rfl⟩
def Got (w wr : World) (s : Nat) : Prop := ∃ a b, w.heap.size ≤ s ∧ Below w.heap.size w wr ∧ Fresh wr s a b
theorem Got.grown {w wr w' : World} {s : Nat} (h : Got w wr s) (hg : wr.grownBy w' none) : Got w w' s := by
  obtain ⟨a, b, h1, h2, h3⟩ := h
  exact ⟨a, b, h1, h2.grown hg h2.size (fun j hj => by cases hj), h3.below ((Below.refl _ _).grown hg (Nat.le_refl _) (fun j hj => by cases hj))⟩
theorem got1 {w w1 : World} {m : Nat} (hm : (w.alloc (.map #[] 0)).drew.heap.size ≤ m) (h1 : w1.heap[m]? = some (.map #[] 0)) (h2 : Below (w.alloc (.map #[] 0)).drew.heap.size (w.alloc (.map #[] 0)).drew w1) :
    Got w (w1.alloc (.cells #[.map (some w.heap.size), .map (some m)] 37)) w1.heap.size := by
  have e1 : (w.alloc (.map #[] 0)).drew.heap.size = w.heap.size + 1 := by show (w.alloc (.map #[] 0)).heap.size = _; simp
  have hs := h2.size
  have b1 : Below w.heap.size w (w.alloc (.map #[] 0)).drew := ((Below.refl _ _).alloc (Nat.le_refl _) _).drew
  have b2 : Below w.heap.size w w1 := b1.trans (h2.mono (by omega))
  refine ⟨w.heap.size, m, by omega, b2.alloc (by omega) _, heap_alloc_new _ _, ?_, ?_⟩
  · rw [Below.heap_alloc _ _ _ (by omega)]
    exact (h2.block _ (by omega)).trans (heap_alloc_new w _)
  · rw [Below.heap_alloc _ _ _ (lt_of_some h1)]
    exact h1

theorem got2 {w w1 : World} {m : Nat} (hm : w.drew.heap.size ≤ m) (h1 : w1.heap[m]? = some (.map #[] 0)) (h2 : Below w.drew.heap.size w.drew w1) :
    Got w ((w1.alloc (.map #[] 0)).alloc (.cells #[.map (some w1.heap.size), .map (some m)] 37)) (w1.heap.size + 1) := by
  have e1 : (w1.alloc (.map #[] 0)).heap.size = w1.heap.size + 1 := by simp
  have hs : w.heap.size ≤ w1.heap.size := h2.size
  have b2 : Below w.heap.size w w1 := (Below.refl _ w).drew.trans h2
  have hl := lt_of_some h1
  refine ⟨w1.heap.size, m, by omega, (b2.alloc (by omega) _).alloc (by omega) _, ?_, ?_, ?_⟩
  · rw [← e1]; exact heap_alloc_new _ _
  · rw [Below.heap_alloc _ _ _ (by omega)]
    exact heap_alloc_new w1 _
  · rw [Below.heap_alloc _ _ _ (by omega), Below.heap_alloc _ _ _ hl]
    exact h1
set_option maxHeartbeats 2000000 in
set_option maxRecDepth 20000 in
theorem copy_new (s a b : Nat) (w : World) (h : Fresh w s a b) : Calls Tryd.prog 9 #[.pointer (some ⟨s, 0, none⟩)] w (NewState w) := by
  have hmh := @makeMap_hint
  have hmm := @run_makeMap Tryd.prog
  have A := Lib.hid (And.intro (none_made s a w h.c0) h)
  clear h
  go_enter Tryd.func9, Tryd.ntmps9
  go_wp2_with fail
  refine A.out.1.mono ?_
  rintro e w' ⟨rfl, rfl⟩
  go_wp2_with fail
  have F0 : Fresh w.drew s a b := A.out.2.below (Below.refl _ _).drew
  have B0 : Below w.heap.size w w.drew := (Below.refl _ _).drew
  have g0 := F0.c0
  have g1 := F0.c1
  have g2 := F0.len
  go_region_held3 (fun w' => Fresh w' s a b ∧ w'.cell? ⟨s, 0, none⟩ = some (.map (some a)) ∧ w'.cell? ⟨s, 1, none⟩ = some (.map (some b)) ∧ ∀ ty, (Builtin.len_ #[34] ty #[.map (some a)]).run Tryd.prog w' = .ok (.int .i64 0) w')
    (first | exact Fresh.all (by assumption) | exact Fresh.all (Fresh.below (by assumption) ((Below.refl _ _).alloc (Nat.le_refl _) _)) | exact Fresh.all (Fresh.below (And.left (by assumption)) ((Below.refl _ _).alloc (Nat.le_refl _) _)) | go_keep)
    (first | (go_at_call 27; refine Calls.mono (clone_in b _ (Fresh.two (s := s) (a := a) (And.left (by assumption)))) ?_; rintro e w1 ⟨m, rfl, hm, h1, h2⟩; have hF := Fresh.below (s := s) (a := a) (b := b) (And.left (by assumption)) h2))
  · have H := Lib.hid (And.intro hF (got1 hm h1 h2))
    clear hF hm h1 h2
    go_wp2_with (first | (at_range; refine wpList_range_own _ rfl _ 34 rfl 9 41 law9 Tryd.underlying34 (fun _ => (none : Option (DataW Unit × List MemPlace))) a 0 (.map []) rfl (H.out.1.owns.kept (World.grownBy_alloc _ _ none) (by simp)) ?_; intro w0 hrg0 hg0 hs0))
    generalize (w1.alloc (.cells #[.map (some w.heap.size), .map (some m)] 37)).heap.size = r at hrg0 ⊢
    have H2 := Lib.hid (And.intro (H.out.2.grown hg0) hrg0)
    clear hrg0 hg0 hs0
    go_frame
    go_loopw [4] (fun u wr => ∃ left, wr.ranges Tryd.prog 9 (fun _ => (none : Option (DataW Unit × List MemPlace))) a r 0 (.map []) left 0 ∧ Got w wr w1.heap.size) (fun u _ => 0)
    case atStart => exact ⟨_, H2.out.2, H2.out.1⟩
    case round =>
      obtain ⟨left, hr, hG⟩ := hrel
      have G := Lib.hid hG
      clear hG
      go_wp2_with (first | (at_next; refine wpList_next_ranges _ rfl _ rfl 9 law9 (fun _ => (none : Option (DataW Unit × List MemPlace))) (fun x : Value => x) (fun x : Value => x) (fun key kl _ => ⟨key, rfl⟩) (fun v y _ => ⟨v, rfl⟩) a r 0 (.map []) left 0 rfl hr ?_ ?_))
      intro hl0
      clear hr
      go_wp2
      go_ret
      obtain ⟨a', b', g1, g2, g3⟩ := G.out
      exact ⟨_, a', b', rfl, g1, g2, g3⟩
  · have H := Lib.hid (And.intro hF (got2 hm h1 h2))
    clear hF hm h1 h2
    go_wp2_with (first | (at_range; refine wpList_range_own _ rfl _ 34 rfl 9 41 law9 Tryd.underlying34 (fun _ => (none : Option (DataW Unit × List MemPlace))) a 0 (.map []) rfl ((H.out.1.owns.kept (World.grownBy_alloc _ _ none) (by simp)).kept (World.grownBy_alloc _ _ none) (by simp)) ?_; intro w0 hrg0 hg0 hs0))
    generalize ((w1.alloc (.map #[] 0)).alloc (.cells #[.map (some w1.heap.size), .map (some m)] 37)).heap.size = r at hrg0 ⊢
    have H2 := Lib.hid (And.intro (H.out.2.grown hg0) hrg0)
    clear hrg0 hg0 hs0
    go_frame
    go_loopw [4] (fun u wr => ∃ left, wr.ranges Tryd.prog 9 (fun _ => (none : Option (DataW Unit × List MemPlace))) a r 0 (.map []) left 0 ∧ Got w wr (w1.heap.size + 1)) (fun u _ => 0)
    case atStart => exact ⟨_, H2.out.2, H2.out.1⟩
    case round =>
      obtain ⟨left, hr, hG⟩ := hrel
      have G := Lib.hid hG
      clear hG
      go_wp2_with (first | (at_next; refine wpList_next_ranges _ rfl _ rfl 9 law9 (fun _ => (none : Option (DataW Unit × List MemPlace))) (fun x : Value => x) (fun x : Value => x) (fun key kl _ => ⟨key, rfl⟩) (fun v y _ => ⟨v, rfl⟩) a r 0 (.map []) left 0 rfl hr ?_ ?_))
      intro hl0
      clear hr
      go_wp2
      go_ret
      obtain ⟨a', b', g1, g2, g3⟩ := G.out
      exact ⟨_, a', b', rfl, g1, g2, g3⟩
end Go.Proofs.YtcogfonmkfcejaaDoor
