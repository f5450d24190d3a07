/- A table of no transactions. -/
import Derived.Test.YtnfokndodnbaiaaNb
set_option linter.unusedVariables false
set_option linter.unusedSimpArgs false
namespace Go.Proofs.Ytnfokndodnbaiaa
open Go.RowKit Go.Maps
open Go.WideMaps (KeyLaw keyOf_string_mk)

def NewT (w : World) (e : Ending) (w' : World) : Prop := ∃ s b, e = .returned (.pointer (some ⟨s, 0, none⟩)) ∧ Below w.heap.size w w' ∧ w'.cell? ⟨s, 2, none⟩ = some (.map (some b)) ∧ w'.cell? ⟨s, 3, none⟩ = some (.bool true) ∧ w'.heap[b]? = some (.map #[] 0)
set_option maxHeartbeats 400000 in
theorem new_nil (w : World) : Calls Try.prog 7 #[.slice none 0 0] w (NewT w) := by
  have hmm := @run_makeMap Try.prog
  go_enter Try.func7, Try.ntmps7
  go_wp2
  obtain ⟨W, hW⟩ : ∃ W : World, W = ((w.alloc (.map #[] 0)).alloc (.map #[] 0)).alloc (.cells #[.slice none 0 0, .map (some w.heap.size), .map (some (w.heap.size + 1)), .bool true] 48) := ⟨_, rfl⟩
  rw [← hW]
  have e1 : (w.alloc (.map #[] 0)).heap.size = w.heap.size + 1 := by simp
  have e2 : ((w.alloc (.map #[] 0)).alloc (.map #[] 0)).heap.size = w.heap.size + 2 := by simp
  have r1 : W.heap[w.heap.size + 2]? = some (.cells #[.slice none 0 0, .map (some w.heap.size), .map (some (w.heap.size + 1)), .bool true] 48 (0, 0)) := by
    rw [hW, ← e2]; exact heap_alloc_new _ _
  have r2 : W.heap[w.heap.size + 1]? = some (.map #[] 0) := by
    rw [hW, Below.heap_alloc _ _ _ (by omega), ← e1]; exact heap_alloc_new _ _
  have hb : Below w.heap.size w W := by
    rw [hW]; exact (((Below.refl _ _).alloc (Nat.le_refl _) _).alloc (by omega) _).alloc (by omega) _
  clear hW e1 e2
  go_loopw [16] (fun u wr => u = .int .i64 0 ∧ W = wr) (fun u _ => 0)
  case atStart => exact ⟨rfl, rfl⟩
  case round =>
    obtain ⟨rfl, rfl⟩ := hrel
    go_wp2
    go_ret
    exact ⟨_, _, rfl, hb, by rw [cell_of_row W _ 2 _ _ _ r1]; rfl, by rw [cell_of_row W _ 3 _ _ _ r1]; rfl, r2⟩
set_option maxHeartbeats 1000000 in
theorem unique_new (s b : Nat) (w : World) (h2 : w.cell? ⟨s, 2, none⟩ = some (.map (some b))) (h3 : w.cell? ⟨s, 3, none⟩ = some (.bool true)) (hb : w.heap[b]? = some (.map #[] 0)) :
    Calls Try.prog 13 #[.pointer (some ⟨s, 0, none⟩)] w (Tells w (.bool true)) := by
  have hown : w.ownsMap Try.prog 61 (fun _ => (none : Option (DataW Unit × List MemPlace))) b 0 (.map []) := ⟨#[], 0, hb, ⟨by simp, MapKept.stamped_empty 0, by simp⟩, Nat.le_refl _, rfl⟩
  clear hb
  go_enter Try.func13, Try.ntmps13
  go_wp2_with (first | (at_range; refine wpList_range_own _ rfl _ 46 rfl 61 39 (Keyed.of_law law61) Try.underlying46 (fun _ => (none : Option (DataW Unit × List MemPlace))) b 0 (.map []) rfl hown ?_; intro w0 hrg0 hg0 hs0))
  have H2 := Lib.hid (And.intro (show Below w.heap.size w w0 from (Below.refl _ _).grown hg0 (Nat.le_refl _) (fun j hj => by cases hj)) hrg0)
  clear hrg0 hg0 hs0
  go_frame
  go_loopw [4] (fun u wr => ∃ left, wr.ranges Try.prog 61 (fun _ => (none : Option (DataW Unit × List MemPlace))) b w.heap.size 0 (.map []) left 0 ∧ Below w.heap.size w wr) (fun u _ => 0)
  case atStart => exact ⟨_, H2.out.2, H2.out.1⟩
  case round =>
    obtain ⟨left, hr, hG⟩ := hrel
    have G := Lib.hid hG
    clear hG
    go_wp2_with (first | (at_next; refine wpList_next_ranges _ rfl _ rfl 61 (Keyed.of_law law61) (fun _ => (none : Option (DataW Unit × List MemPlace))) (fun x : Value => x) (fun x : Value => x) (fun key kl _ => ⟨key, rfl⟩) (fun v y _ => ⟨v, rfl⟩) b w.heap.size 0 (.map []) left 0 rfl hr ?_ ?_))
    intro hl0
    clear hr
    go_wp2
    go_ret
    exact ⟨rfl, G.out⟩
end Go.Proofs.Ytnfokndodnbaiaa
