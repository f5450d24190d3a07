/- The keys of a table that no call made; the law of such tables. -/
import Derived.Test.YtnfokndodnbaiaaNa
import Derived.Test.YtnfokndodnbaiaaNc
set_option linter.unusedVariables false
set_option linter.unusedSimpArgs false
namespace Go.Proofs.Ytnfokndodnbaiaa
open Go.RowKit Go.Maps Go.Sort Go.Shelf

set_option maxHeartbeats 1000000 in
theorem keys_zero (s : Nat) (w : World) (h1 : w.cell? ⟨s, 1, none⟩ = some (.map none)) : Calls Try.prog 16 #[.pointer (some ⟨s, 0, none⟩)] w (Tells w (.slice none 0 0)) := by
  refine (callsIn_wide (n := 6)).1 ?_
  have hseq : SeqGives Fence.wide 2 Try.prog 38 #[.pointer (some ⟨w.heap.size, 0, none⟩)] encStr (fun ss : List (List UInt8) => ss = []) 0 (w.alloc (.cells #[.map none] 29)) :=
    AnyZ.keys_gives_nil (ρ := Try.keysA_ren) { Try.keysA with } Fence.wide _ trivial rfl w.heap.size _ (by simp) (by simp)
  have cK : ∀ mb W, CallsIn Fence.wide 5 Try.prog 30 #[.map mb] W fun e w' => e = .returned (.func (.func 38) #[] #[.pointer (some ⟨W.heap.size, 0, none⟩)]) ∧ w' = W.alloc (.cells #[.map mb] 29) := fun mb W => AnyZ.keys_in Try.keysA Fence.wide 5 trivial rfl mb W
  have cS := AnyZ.sorted_in Try.sortedA Fence.wide 5 trivial trivial trivial trivial rfl (by omega) (sortsA _) (enters_of Try.func37 (by kernel_rfl) rfl) 38 #[.pointer (some ⟨w.heap.size, 0, none⟩)] trivial (enters_of Try.func38 (by kernel_rfl) rfl) _ 0 (Nat.zero_le _) (by omega) _ hseq
  change CallsIn _ _ Try.prog 29 _ _ _ at cS
  have hfK : Fence.wide.fn 30 := trivial
  have hfS : Fence.wide.fn 29 := trivial
  refine callsIn_of_wp Try.func16 rfl trivial ?_ rfl
  simp only [Try.ntmps16, List.size_toArray, List.length_cons, List.length_nil, Nat.reduceAdd, Nat.reduceSub, Array.replicate_succ, Array.replicate_zero, List.push_toArray, List.append_toArray, List.nil_append, List.cons_append]
  gi_wp2_with (first
    | (gi_at_call 30; refine (cK _ _).mono ?_; rintro e w' ⟨rfl, rfl⟩)
    | (gi_at_call 29; refine cS.mono ?_; rintro e w' ⟨v, ss, rfl, rfl, hrow, hnil, hb⟩; obtain rfl : v = .slice none 0 0 := hnil.2 rfl))
  go_ret
  exact ⟨rfl, ((Below.refl _ w).alloc (Nat.le_refl _) _).trans (hb.mono (by simp))⟩
set_option maxHeartbeats 400000 in
theorem keys_no (p : Value) (w : World) (h : Nobody w p) : Calls Try.prog 16 #[p] w (Tells w (.slice none 0 0)) := by
  rcases h with rfl | ⟨s, rfl, h0, h1, h2, h3⟩
  · go_enter Try.func16, Try.ntmps16
    go_wp2
    go_ret
    exact ⟨rfl, Below.refl _ _⟩
  · exact keys_zero s w h1

def Holds (w : World) (e : Ending) (w' : World) : Prop := e = .returned (.bool true) ∧ Below w.heap.size w w'
set_option maxHeartbeats 2000000 in
set_option maxRecDepth 20000 in
theorem nobody_in (k : ByteArray) (n : Int) (w : World) (hk : k.size ≤ maxLen) (hn : (Lit.int .i64 n).wf = true) : Calls Try.prog 5 #[.string k, .int .i64 n] w (Holds w) := by
  go_enter Try.func5, Try.ntmps5
  go_wp2
  have hbW := Lib.hid (show Below w.heap.size w ((w.alloc (.cells #[.slice none 0 0, .map none, .map none, .bool false] 48)).alloc (.cells #[.pointer none, .pointer (some ⟨w.heap.size, 0, none⟩)] 24)) from ((Below.refl _ _).alloc (Nat.le_refl _) _).alloc (by simp) _)
  have hsz : (w.alloc (.cells #[.slice none 0 0, .map none, .map none, .bool false] 48)).heap.size = w.heap.size + 1 := by simp
  have r1 : ((w.alloc (.cells #[.slice none 0 0, .map none, .map none, .bool false] 48)).alloc (.cells #[.pointer none, .pointer (some ⟨w.heap.size, 0, none⟩)] 24)).heap[w.heap.size + 1]? = some (.cells #[.pointer none, .pointer (some ⟨w.heap.size, 0, none⟩)] 24 (0, 0)) := by
    rw [← hsz]; exact heap_alloc_new _ _
  have r0 : ((w.alloc (.cells #[.slice none 0 0, .map none, .map none, .bool false] 48)).alloc (.cells #[.pointer none, .pointer (some ⟨w.heap.size, 0, none⟩)] 24)).heap[w.heap.size]? = some (.cells #[.slice none 0 0, .map none, .map none, .bool false] 48 (0, 0)) := by
    rw [Below.heap_alloc _ _ _ (by omega)]; exact heap_alloc_new _ _
  generalize ((w.alloc (.cells #[.slice none 0 0, .map none, .map none, .bool false] 48)).alloc (.cells #[.pointer none, .pointer (some ⟨w.heap.size, 0, none⟩)] 24)) = W0 at *
  have p0 : W0.cell? ⟨w.heap.size + 1, 0, none⟩ = some (.pointer none) := by rw [cell_of_row W0 _ 0 _ _ _ r1]; rfl
  have p1 : W0.cell? ⟨w.heap.size + 1, 1, none⟩ = some (.pointer (some ⟨w.heap.size, 0, none⟩)) := by rw [cell_of_row W0 _ 1 _ _ _ r1]; rfl
  have q : Nobody W0 (.pointer (some ⟨w.heap.size, 0, none⟩)) := .inr ⟨_, rfl, by rw [cell_of_row W0 _ 0 _ _ _ r0]; rfl, by rw [cell_of_row W0 _ 1 _ _ _ r0]; rfl, by rw [cell_of_row W0 _ 2 _ _ _ r0]; rfl, by rw [cell_of_row W0 _ 3 _ _ _ r0]; rfl⟩
  have Q := Lib.hid (And.intro p0 (And.intro p1 q))
  clear r0 r1 hsz p0 p1 q
  go_loopw [11] (fun u wr => (u = .int .i64 0 ∨ u = .int .i64 1 ∨ u = .int .i64 2) ∧ Below W0.heap.size W0 wr) (fun u _ => 2 - (intOf u).toNat)
  case atStart => exact ⟨.inl rfl, Below.refl _ _⟩
  case round =>
    obtain ⟨hu, hbr⟩ := hrel
    have R := Lib.hid hbr
    rcases hu with rfl | rfl | rfl
    · have p0 := old_cell hbr Q.out.1
      have HN : Nobody wr (.pointer none) := .inl rfl
      clear hbr
      have N0 := Lib.hid HN
      clear HN
      go_wp2_with fail
      refine (keys_no (.pointer none) wr N0.out).mono ?_
      rintro e W1 ⟨rfl, hb1⟩
      have N1 := Lib.hid (And.intro hb1 (N0.out.below hb1))
      clear hb1
      go_wp2_with fail
      refine (kind_no (.pointer none) k W1 N1.out.2 hk).mono ?_
      rintro e W2 ⟨rfl, hb2⟩
      have N2 := Lib.hid (And.intro (below_then' N1.out.1 hb2) (N1.out.2.below hb2))
      clear hb2
      go_wp2_with fail
      refine (writers_no (.pointer none) k n W2 N2.out.2 hk hn).mono ?_
      rintro e W3 ⟨rfl, hb3⟩
      have N3 := Lib.hid (And.intro (below_then' N2.out.1 hb3) (N2.out.2.below hb3))
      clear hb3
      go_wp2_with fail
      refine (count_no (.pointer none) W3 N3.out.2).mono ?_
      rintro e w' ⟨rfl, rfl⟩
      go_wp2_with fail
      refine (final_no (.pointer none) n W3 N3.out.2).mono ?_
      rintro e W4 ⟨rfl, hb4⟩
      have N4 := Lib.hid (And.intro (below_then' N3.out.1 hb4) (N3.out.2.below hb4))
      clear hb4
      go_wp2_with fail
      refine (unique_no (.pointer none) W4 N4.out.2).mono ?_
      rintro e W5 ⟨rfl, hb5⟩
      have N5 := Lib.hid (And.intro (below_then' N4.out.1 hb5) (N4.out.2.below hb5))
      clear hb5
      go_wp2_with fail
      refine (txn_no (.pointer none) n W5 N5.out.2).mono ?_
      rintro e W6 ⟨rfl, hb6⟩
      have N6 := Lib.hid (below_then' N5.out.1 hb6)
      clear hb6
      go_wp2_with fail
      refine (sametxn_no W6).mono ?_
      rintro e W7 ⟨rfl, hb7⟩
      have N7 := Lib.hid (below_then' N6.out hb7)
      clear hb7
      go_wp2
      go_roundw
      case rel => exact ⟨.inr (.inl (by go_num)), below_then' R.out N7.out⟩
      case measure => simp [intOf]
    · have p1 := old_cell hbr Q.out.2.1
      have HN := Q.out.2.2.below hbr
      clear hbr
      have N0 := Lib.hid HN
      clear HN
      go_wp2_with fail
      refine (keys_no (.pointer (some ⟨w.heap.size, 0, none⟩)) wr N0.out).mono ?_
      rintro e W1 ⟨rfl, hb1⟩
      have N1 := Lib.hid (And.intro hb1 (N0.out.below hb1))
      clear hb1
      go_wp2_with fail
      refine (kind_no (.pointer (some ⟨w.heap.size, 0, none⟩)) k W1 N1.out.2 hk).mono ?_
      rintro e W2 ⟨rfl, hb2⟩
      have N2 := Lib.hid (And.intro (below_then' N1.out.1 hb2) (N1.out.2.below hb2))
      clear hb2
      go_wp2_with fail
      refine (writers_no (.pointer (some ⟨w.heap.size, 0, none⟩)) k n W2 N2.out.2 hk hn).mono ?_
      rintro e W3 ⟨rfl, hb3⟩
      have N3 := Lib.hid (And.intro (below_then' N2.out.1 hb3) (N2.out.2.below hb3))
      clear hb3
      go_wp2_with fail
      refine (count_no (.pointer (some ⟨w.heap.size, 0, none⟩)) W3 N3.out.2).mono ?_
      rintro e w' ⟨rfl, rfl⟩
      go_wp2_with fail
      refine (final_no (.pointer (some ⟨w.heap.size, 0, none⟩)) n W3 N3.out.2).mono ?_
      rintro e W4 ⟨rfl, hb4⟩
      have N4 := Lib.hid (And.intro (below_then' N3.out.1 hb4) (N3.out.2.below hb4))
      clear hb4
      go_wp2_with fail
      refine (unique_no (.pointer (some ⟨w.heap.size, 0, none⟩)) W4 N4.out.2).mono ?_
      rintro e W5 ⟨rfl, hb5⟩
      have N5 := Lib.hid (And.intro (below_then' N4.out.1 hb5) (N4.out.2.below hb5))
      clear hb5
      go_wp2_with fail
      refine (txn_no (.pointer (some ⟨w.heap.size, 0, none⟩)) n W5 N5.out.2).mono ?_
      rintro e W6 ⟨rfl, hb6⟩
      have N6 := Lib.hid (below_then' N5.out.1 hb6)
      clear hb6
      go_wp2_with fail
      refine (sametxn_no W6).mono ?_
      rintro e W7 ⟨rfl, hb7⟩
      have N7 := Lib.hid (below_then' N6.out hb7)
      clear hb7
      go_wp2
      go_roundw
      case rel => exact ⟨.inr (.inr (by go_num)), below_then' R.out N7.out⟩
      case measure => simp [intOf]
    · clear hbr
      go_wp2_with fail
      refine (new_nil wr).mono ?_
      rintro e W1 ⟨s, b, rfl, hb1, c2, c3, hm⟩
      have N1 := Lib.hid hb1
      have N2 := Lib.hid (unique_new s b W1 c2 c3 hm)
      clear hb1 c2 c3 hm
      go_wp2_with fail
      refine N2.out.mono ?_
      rintro e W2 ⟨rfl, hb2⟩
      have N3 := Lib.hid hb2
      clear hb2
      go_wp2
      go_ret
      exact ⟨rfl, below_then' hbW.out (below_then' R.out (below_then' N1.out N3.out))⟩
end Go.Proofs.Ytnfokndodnbaiaa
