/- Labels put into the document's graph, and read. -/
import Derived.Test.YtcfbcfcoigifiaaDoorJ
import Derived.Laws.BitsLemmas
set_option linter.unusedVariables false
set_option linter.unusedSimpArgs false
namespace Go.Proofs.YtcfbcfcoigifiaaDoor
open Go.RowKit

set_option maxHeartbeats 400000 in
theorem there_yes (x n i c : Nat) (A : Option Addr) (w : World) (hi : i < n) (h0 : w.cell? ⟨x, 0, none⟩ = some (.slice A n c)) :
    Calls Tryd.prog 30 #[.pointer (some ⟨x, 0, none⟩), .int .i64 i] w fun e w' => e = .returned (.bool true) ∧ w = w' := by
  have h1 : decide ((0 : Int) ≤ (i : Int)) = true := by simp
  have h2 : decide ((i : Int) < (n : Int)) = true := by simp; omega
  go_enter Tryd.func30, Tryd.ntmps30
  go_wp2
  go_ret
  exact ⟨rfl, rfl⟩

set_option maxHeartbeats 400000 in
theorem there_no (x n c : Nat) (A : Option Addr) (i : Int) (w : World) (hi : i < 0 ∨ (n : Int) ≤ i) (h0 : w.cell? ⟨x, 0, none⟩ = some (.slice A n c)) :
    Calls Tryd.prog 30 #[.pointer (some ⟨x, 0, none⟩), .int .i64 i] w fun e w' => e = .returned (.bool false) ∧ w = w' := by
  by_cases hneg : i < 0
  · have h1 : decide ((0 : Int) ≤ i) = false := by simp; omega
    clear hi
    go_enter Tryd.func30, Tryd.ntmps30
    go_wp2
    go_ret
    exact ⟨rfl, rfl⟩
  · have h1 : decide ((0 : Int) ≤ i) = true := by simp; omega
    have h2 : decide (i < (n : Int)) = false := by simp; omega
    clear hi hneg
    go_enter Tryd.func30, Tryd.ntmps30
    go_wp2
    go_ret
    exact ⟨rfl, rfl⟩

theorem RefIs.head {w : World} {base x n : Nat} {L : Nat → Nat → Nat} (h : RefIs w base x n L) : ∃ A c, w.cell? ⟨x, 0, none⟩ = some (.slice A n c) := by
  obtain ⟨v, r, R⟩ := h
  have hv : ∃ A c, v = .slice A n c := by
    rcases R.own.2 with ⟨rfl, h0⟩ | ⟨g, cap, cur, rfl, _⟩
    · exact ⟨none, 0, by rw [h0]⟩
    · exact ⟨_, cap, rfl⟩
  obtain ⟨A, c, rfl⟩ := hv
  exact ⟨A, c, by rw [cell_of_row w x 0 _ _ _ R.hdr]; rfl⟩
/-- The cells on the way to a label. -/
theorem RefIs.cells {w : World} {base x n : Nat} {L : Nat → Nat → Nat} (h : RefIs w base x n L) (hn : 0 < n) :
    ∃ (rb cap : Nat) (r : Nat → Nat), w.cell? ⟨x, 0, none⟩ = some (.slice (some ⟨rb, 0, none⟩) n cap) ∧ (∀ a, a < n → w.cell? ⟨rb, a, none⟩ = some (.slice (some ⟨r a, 0, none⟩) n n)) ∧
      (∀ a b, a < n → b < n → w.cell? ⟨r a, b, none⟩ = some (.int .i64 ((L a b : Nat) : Int)) ∧ w.frozen? ⟨r a, b, none⟩ = false) ∧
      (∀ a b y, a < n → b < n → RefIs (w.setCell ⟨r a, b, none⟩ (.int .i64 ((y : Nat) : Int))) base x n (upd L a (upd (L a) b y)) ∧ Ty base 3 w (w.setCell ⟨r a, b, none⟩ (.int .i64 ((y : Nat) : Int)))) := by
  obtain ⟨v, r, R⟩ := h
  obtain ⟨rb, cap, rfl, _, _⟩ := R.own.form hn
  refine ⟨rb, cap, r, by rw [cell_of_row w x 0 _ _ _ R.hdr]; rfl, fun a ha => ?_, fun a b ha hb => ⟨?_, ?_⟩, fun a b y ha hb => ⟨⟨.slice (some ⟨rb, 0, none⟩) n cap, r, ?_⟩, ?_⟩⟩
  · rw [R.own.cellAt a (by omega), heads_at _ _ _ _ ha]
  · rw [cell_of_row w (r a) b _ _ _ (R.row a ha).1, rowV_at _ _ _ hb]
  · exact frozen_of_row w (r a) b _ _ (R.row a ha).1
  · have hk : ∀ (k : Nat) (c : Array Value) (T : Nat), w.heap[k]? = some (Obj.cells c T (0, 0)) → k ≠ r a → (w.setCell ⟨r a, b, none⟩ (.int .i64 ((y : Nat) : Int))).heap[k]? = w.heap[k]? := fun k c T hk hne => Below.heap_setCell _ _ _ _ hne
    have hT : ∀ (k : Nat) (c : Array Value) (T : Nat), w.heap[k]? = some (Obj.cells c T (0, 0)) → T ≠ 3 → k ≠ r a := fun k c T hk hne e => by
      subst e
      rw [(R.row a ha).1] at hk
      injection hk with hk
      injection hk with _ hk
      exact hne hk.symm
    refine ⟨(hk _ _ _ R.hdr (hT _ _ _ R.hdr (by decide))).trans R.hdr, R.xb, own_keep R.own fun k _ _ ⟨cur, hc⟩ => hk _ _ _ hc (hT _ _ _ hc (by decide)), fun j hj => ⟨?_, (R.row j hj).2⟩, R.inj, R.n_le⟩
    by_cases e : j = a
    · subst e
      rw [upd_same, heap_setCell_same w (r j) b _ _ _ (R.row j hj).1, rowV_set]
    · rw [upd_other _ _ e]
      exact (hk _ _ _ (R.row j hj).1 fun e2 => e (R.inj j a hj ha e2)).trans (R.row j hj).1
  · refine ⟨rfl, rfl, rfl, by simp [World.setCell], fun k hk hc => Below.heap_setCell _ _ _ _ ?_⟩
    rintro rfl
    rcases hc with hc | hc
    · have := (R.row a ha).2
      exact absurd this (by simpa using hc)
    · exact hc _ (R.row a ha).1

set_option maxHeartbeats 400000 in
theorem radd_from (base x n : Nat) (L : Nat → Nat → Nat) (a b c : Int) (w : World) (ha : a < 0 ∨ (n : Int) ≤ a) (h : RefIs w base x n L) :
    Calls Tryd.prog 21 #[.pointer (some ⟨x, 0, none⟩), .int .i64 a, .int .i64 b, .int .i64 c] w fun e w' => e = .returned (.int .i64 60) ∧ w = w' := by
  obtain ⟨A, cc, h0⟩ := h.head
  have A := Lib.hid (there_no x n cc A a w ha h0)
  clear ha h
  go_enter Tryd.func21, Tryd.ntmps21
  go_wp2_with fail
  refine A.out.mono ?_
  rintro e w' ⟨rfl, rfl⟩
  go_wp2
  go_ret
  exact ⟨rfl, rfl⟩

set_option maxHeartbeats 400000 in
theorem radd_to (base x n a : Nat) (L : Nat → Nat → Nat) (b c : Int) (w : World) (ha : a < n) (hb : b < 0 ∨ (n : Int) ≤ b) (h : RefIs w base x n L) :
    Calls Tryd.prog 21 #[.pointer (some ⟨x, 0, none⟩), .int .i64 a, .int .i64 b, .int .i64 c] w fun e w' => e = .returned (.int .i64 60) ∧ w = w' := by
  obtain ⟨A, cc, h0⟩ := h.head
  have A := Lib.hid (And.intro (there_yes x n a cc A w ha h0) (there_no x n cc A b w hb h0))
  clear ha hb h
  go_enter Tryd.func21, Tryd.ntmps21
  go_wp2_with fail
  refine A.out.1.mono ?_
  rintro e w' ⟨rfl, rfl⟩
  go_wp2_with fail
  refine A.out.2.mono ?_
  rintro e w' ⟨rfl, rfl⟩
  go_wp2
  go_ret
  exact ⟨rfl, rfl⟩

set_option maxHeartbeats 400000 in
theorem radd_label (base x n a b : Nat) (L : Nat → Nat → Nat) (c : Int) (w : World) (ha : a < n) (hb : b < n) (hc : c < 1 ∨ 15 < c ∨ a = b) (h : RefIs w base x n L) :
    Calls Tryd.prog 21 #[.pointer (some ⟨x, 0, none⟩), .int .i64 a, .int .i64 b, .int .i64 c] w fun e w' => e = .returned (.int .i64 1) ∧ w = w' := by
  obtain ⟨A, cc, h0⟩ := h.head
  have A := Lib.hid (And.intro (there_yes x n a cc A w ha h0) (there_yes x n b cc A w hb h0))
  clear ha hb h
  by_cases h1 : c < 1
  · have d1 : decide (c < 1) = true := by simpa using h1
    clear hc
    go_enter Tryd.func21, Tryd.ntmps21
    go_wp2_with fail
    refine A.out.1.mono ?_
    rintro e w' ⟨rfl, rfl⟩
    go_wp2_with fail
    refine A.out.2.mono ?_
    rintro e w' ⟨rfl, rfl⟩
    go_wp2
    go_ret
    exact ⟨rfl, rfl⟩
  · have d1 : decide (c < 1) = false := by simpa using h1
    by_cases h2 : 15 < c
    · have d2 : decide (15 < c) = true := by simpa using h2
      clear hc
      go_enter Tryd.func21, Tryd.ntmps21
      go_wp2_with fail
      refine A.out.1.mono ?_
      rintro e w' ⟨rfl, rfl⟩
      go_wp2_with fail
      refine A.out.2.mono ?_
      rintro e w' ⟨rfl, rfl⟩
      go_wp2
      go_ret
      exact ⟨rfl, rfl⟩
    · have d2 : decide (15 < c) = false := by simpa using h2
      obtain rfl : a = b := by omega
      clear hc
      go_enter Tryd.func21, Tryd.ntmps21
      go_wp2_with fail
      refine A.out.1.mono ?_
      rintro e w' ⟨rfl, rfl⟩
      go_wp2_with fail
      refine A.out.2.mono ?_
      rintro e w' ⟨rfl, rfl⟩
      go_wp2
      go_ret
      exact ⟨rfl, rfl⟩

theorem wraps_i64_4 (n : Int) (h₀ : 0 ≤ n) (h₁ : n < 2 ^ 4) : IntKind.i64.wrap n = n := by rw [IntKind.wrap_i64]; omega
theorem or4 (a b : Nat) (ha : a < 16) (hb : b < 16) : bits .or .i64 (a : Int) (b : Int) = ((a ||| b : Nat) : Int) := (bits_nat .i64 4 (by decide) wraps_i64_4 a b ha hb).2

def orAt (L : Nat → Nat → Nat) (a b c : Nat) : Nat → Nat → Nat := upd L a (upd (L a) b (L a b ||| c))
def RAddEdge (w : World) (base x n a b c : Nat) (L : Nat → Nat → Nat) (e : Ending) (w' : World) : Prop := e = .returned (.int .i64 0) ∧ RefIs w' base x n (orAt L a b c) ∧ Ty base 3 w w'

set_option maxHeartbeats 1000000 in
theorem radd_edge (base x n a b c : Nat) (L : Nat → Nat → Nat) (w : World) (ha : a < n) (hb : b < n) (hc1 : 1 ≤ c) (hc2 : c ≤ 15) (hab : a ≠ b) (hL : L a b < 16) (h : RefIs w base x n L) :
    Calls Tryd.prog 21 #[.pointer (some ⟨x, 0, none⟩), .int .i64 a, .int .i64 b, .int .i64 c] w (RAddEdge w base x n a b c L) := by
  have hd : RefIs w.drew base x n L := h.below (Below.refl _ _).drew
  obtain ⟨rb, cap, r, h0, h1, h2, h3⟩ := hd.cells (by omega)
  have g0 : w.cell? ⟨x, 0, none⟩ = some (.slice (some ⟨rb, 0, none⟩) n cap) := h0
  have g1 : w.cell? ⟨rb, a, none⟩ = some (.slice (some ⟨r a, 0, none⟩) n n) := h1 a ha
  have g2 : w.cell? ⟨r a, b, none⟩ = some (.int .i64 ((L a b : Nat) : Int)) := (h2 a b ha hb).1
  have g3 : w.frozen? ⟨r a, b, none⟩ = false := (h2 a b ha hb).2
  have h4 := h3 a b (L a b ||| c) ha hb
  rw [← or4 (L a b) c hL (by omega)] at h4
  have A := Lib.hid (And.intro (there_yes x n a cap _ w ha g0) (And.intro (there_yes x n b cap _ w hb g0) h4))
  have d1 : decide ((c : Int) < 1) = false := by simp; omega
  have d2 : decide (15 < (c : Int)) = false := by simp; omega
  have d3 : ((a : Int) == (b : Int)) = false := by simp; omega
  obtain ⟨y, hy⟩ : ∃ y, y = L a b := ⟨_, rfl⟩
  rw [← hy] at g2 A
  have hab' := Lib.hid hab
  have hy' := Lib.hid hy
  clear h hd h0 h1 h2 h3 h4 hab hL hy
  go_enter Tryd.func21, Tryd.ntmps21
  go_wp2_with fail
  refine A.out.1.mono ?_
  rintro e w' ⟨rfl, rfl⟩
  go_wp2_with fail
  refine A.out.2.1.mono ?_
  rintro e w' ⟨rfl, rfl⟩
  go_wp2_with fail
  refine wp_region_still_tail 21 (by kernel_rfl) (by kernel_rfl) ?_
  simp only [List.take_succ_cons, List.take_zero, List.drop_succ_cons, List.drop_zero]
  repeat still_step
  refine wpStill_nil ?_
  change wpList _ _ _ _ _ w.drew
  go_wp2
  go_ret
  refine ⟨rfl, ?_, ?_⟩
  · unfold orAt; rw [← hy'.out]; exact A.out.2.2.1
  · exact (Ty.of_below (Below.refl _ _).drew).trans A.out.2.2.2

def LabIn (w : World) (x : Nat) (e : Ending) (w' : World) : Prop := e = .returned (.int .i64 (x : Int)) ∧ w = w'
set_option maxHeartbeats 1000000 in
theorem rlabels (base x n a b : Nat) (L : Nat → Nat → Nat) (w : World) (ha : a < n) (hb : b < n) (h : RefIs w base x n L) :
    Calls Tryd.prog 33 #[.pointer (some ⟨x, 0, none⟩), .int .i64 a, .int .i64 b] w fun e w' => e = .returned (.int .i64 ((L a b : Nat) : Int)) ∧ w = w' := by
  obtain ⟨rb, cap, r, h0, h1, h2, h3⟩ := h.cells (by omega)
  have g1 := h1 a ha
  have g2 := (h2 a b ha hb).1
  have A := Lib.hid (And.intro (there_yes x n a cap _ w ha h0) (there_yes x n b cap _ w hb h0))
  clear h h1 h2 h3
  go_enter Tryd.func33, Tryd.ntmps33
  go_wp2_with fail
  refine A.out.1.mono ?_
  rintro e w' ⟨rfl, rfl⟩
  go_wp2_with fail
  refine A.out.2.mono ?_
  rintro e w' ⟨rfl, rfl⟩
  go_wp2
  go_ret
  exact ⟨rfl, rfl⟩
end Go.Proofs.YtcfbcfcoigifiaaDoor
