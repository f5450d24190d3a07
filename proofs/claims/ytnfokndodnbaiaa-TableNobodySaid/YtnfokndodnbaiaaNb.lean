/- A table that no call made: what its other methods tell. -/
import Derived.Test.YtnfokndodnbaiaaProg
import Derived.WalkKit
import Derived.WalkSpells
import Derived.WalkLawsBesides
import Derived.Deep.Draws
import Derived.Deep.QuietTactic
import Derived.BigQuiet
import Derived.Lib.Hide
import Derived.Outline
import Derived.StillTailTactics
import Derived.Maps.Own
import Derived.Maps.OwnOps
import Derived.Maps.OwnSet
import Derived.Maps.RangeWalk
import Derived.Laws.Rows
import Derived.DeepKeys4
import Derived.WideKeyPair
set_option linter.unusedVariables false
set_option linter.unusedSimpArgs false
namespace Go.Proofs.Ytnfokndodnbaiaa
open Go.RowKit Go.Maps
open Go.WideMaps (KeyLaw keyOf_string_mk)
open Go.ChangeShapes

theorem old_cell {w wr : World} {p : Addr} {v : Value} (hb : Below w.heap.size w wr) (h : w.cell? p = some v) : wr.cell? p = some v := (hb.cell (World.block_lt_of_cell? w _ h)).trans h
theorem below_then' {w w1 w2 : World} (h : Below w.heap.size w w1) (k : Below w1.heap.size w1 w2) : Below w.heap.size w w2 := h.trans (k.mono h.size)
/-- Nil, or a table of zeros. -/
def Nobody (w : World) (p : Value) : Prop := p = .pointer none ∨ ∃ s, p = .pointer (some ⟨s, 0, none⟩) ∧ w.cell? ⟨s, 0, none⟩ = some (.slice none 0 0) ∧ w.cell? ⟨s, 1, none⟩ = some (.map none) ∧ w.cell? ⟨s, 2, none⟩ = some (.map none) ∧ w.cell? ⟨s, 3, none⟩ = some (.bool false)
theorem Nobody.below {w w' : World} {p : Value} (h : Nobody w p) (hb : Below w.heap.size w w') : Nobody w' p := by
  rcases h with rfl | ⟨s, rfl, h0, h1, h2, h3⟩
  · exact .inl rfl
  · exact .inr ⟨s, rfl, old_cell hb h0, old_cell hb h1, old_cell hb h2, old_cell hb h3⟩
def Tells (w : World) (v : Value) (e : Ending) (w' : World) : Prop := e = .returned v ∧ Below w.heap.size w w'

theorem laidOut' : laidOutB Try.prog = true := by kernel_rfl
theorem row61 : (61 : TypeId) < Try.prog.types.size := of_decide_eq_true (by kernel_rfl)
theorem wide61 : (match Try.prog.underlying 61 with | some (.array _ _) | some (.struct _) => true | _ => false) = true := by rw [Try.underlying61]
theorem law61 : KeyLaw Try.prog 61 := deep_law_laid laidOut' (m := 2) (by omega) row61 (by kernel_rfl) wide61
theorem zero3 (w : World) : (zeroValue 3).run Try.prog w = .ok (.int .i64 0) w := by kernel_rfl
theorem zero39 (w : World) : (zeroValue 39).run Try.prog w = .ok (.slice none 0 0) w := by kernel_rfl
theorem cells61 : Try.prog.cellsOf 61 = 2 := by kernel_rfl
theorem cells9 : Try.prog.cellsOf 9 = 1 := by kernel_rfl
theorem cells3 : Try.prog.cellsOf 3 = 1 := by kernel_rfl
theorem deep61 : Try.prog.keyTypeAt (Try.prog.types.size + 1) 61 = true := by kernel_rfl
set_option maxRecDepth 100000 in
theorem key61 (w : World) {k : ByteArray} {n : Int} (hk : k.size ≤ maxLen) (hn : (Lit.int .i64 n).wf = true) : ∃ kl, keyOf Try.prog 61 (.agg #[.string k, .int .i64 n]) = some kl := by
  have t0 : DataW.trod (H := Unit) (fun _ => ()) Try.prog w 0 (fun _ => true) true 2 61 [.string k, .int .i64 n] = some (.agg [.lit (.string k.data.toList), .lit (.int .i64 n)], []) :=
    trod_struct2_mk (y0 := (.lit (.string k.data.toList), [])) (y1 := (.lit (.int .i64 n), [])) Try.underlying61 (by rw [cells61]; rfl)
      (by simp [cells9, DataW.trod, Try.underlying9, hk]) (by simp [cells3, DataW.trod, Try.underlying3, hn])
  exact ⟨_, (keyOf_asKey deep61 wide61 (v := .agg #[.string k, .int .i64 n]) (by simp [Value.formed, Try.underlying61, cells61]) ⟨2, by simpa [Value.cells] using t0⟩).1⟩

set_option maxHeartbeats 400000 in
theorem count_no (p : Value) (w : World) (h : Nobody w p) : Calls Try.prog 18 #[p] w fun e w' => e = .returned (.int .i64 0) ∧ w = w' := by
  rcases h with rfl | ⟨s, rfl, h0, h1, h2, h3⟩
  all_goals
    go_enter Try.func18, Try.ntmps18
    go_wp2
    go_ret
    exact ⟨rfl, rfl⟩
set_option maxHeartbeats 400000 in
theorem kind_no (p : Value) (k : ByteArray) (w : World) (h : Nobody w p) (hk : k.size ≤ maxLen) : Calls Try.prog 17 #[p, .string k] w (Tells w (.int .i64 0)) := by
  have hl := fun w => Maps.look_nil (w := w) false (string_keyed Try.underlying9) Try.underlying29 (zero3 w) (keyOf_string_mk Try.underlying9 hk)
  rcases h with rfl | ⟨s, rfl, h0, h1, h2, h3⟩
  all_goals
    go_enter Try.func17, Try.ntmps17
    go_wp2
    go_ret
    exact ⟨rfl, Below.refl _ _⟩
theorem eql39 (w : World) : (binOp .eql 39 (.slice none 0 0) (.slice none 0 0)).run Try.prog w = .ok (.bool true) w := by
  simp only [binOp]
  simp [run_equal_slice_nil w 39 34 none 0 0 Try.underlying39]
set_option maxRecDepth 20000 in
set_option maxHeartbeats 400000 in
theorem clone_no (w : World) : Calls Try.prog 27 #[.slice none 0 0] w (Tells w (.slice none 0 0)) := by
  have hq := eql39
  go_enter Try.func27, Try.ntmps27
  go_wp2
  go_ret
  exact ⟨rfl, Below.refl _ _⟩
set_option maxHeartbeats 400000 in
theorem writers_no (p : Value) (k : ByteArray) (n : Int) (w : World) (h : Nobody w p) (hk : k.size ≤ maxLen) (hn : (Lit.int .i64 n).wf = true) : Calls Try.prog 11 #[p, .string k, .int .i64 n] w (Tells w (.slice none 0 0)) := by
  obtain ⟨kl, hkey⟩ := key61 w hk hn
  have hl := fun w => Maps.look_nil (w := w) false (Keyed.of_law law61) Try.underlying46 (zero39 w) hkey
  rcases h with rfl | ⟨s, rfl, h0, h1, h2, h3⟩
  · go_enter Try.func11, Try.ntmps11
    go_wp2
    go_ret
    exact ⟨rfl, Below.refl _ _⟩
  · go_enter Try.func11, Try.ntmps11
    go_wp2_with fail
    refine (clone_no _).mono ?_
    rintro e w1 ⟨rfl, hb⟩
    have B := Lib.hid hb
    clear hb
    go_wp2
    go_ret
    exact ⟨rfl, B.out⟩
set_option maxHeartbeats 400000 in
theorem unique_no (p : Value) (w : World) (h : Nobody w p) : Calls Try.prog 13 #[p] w (Tells w (.bool false)) := by
  rcases h with rfl | ⟨s, rfl, h0, h1, h2, h3⟩
  all_goals
    go_enter Try.func13, Try.ntmps13
    go_wp2
    go_ret
    exact ⟨rfl, Below.refl _ _⟩
def zeroTxn : Array Value := #[.int .i64 0, .int .i64 0, .int .i64 0, .int .i64 0, .slice none 0 0]
theorem size28 : (Try.prog.info? 28).map (·.size) = some zeroTxn.size := by kernel_rfl
set_option maxHeartbeats 400000 in
theorem txn_no (p : Value) (n : Int) (w : World) (h : Nobody w p) : Calls Try.prog 20 #[p, .int .i64 n] w (Tells w (.agg zeroTxn)) := by
  by_cases hn : n < 0
  · have d0 : decide (n < 0) = true := by simp [hn]
    go_enter Try.func20, Try.ntmps20
    go_wp2
    refine bodyPost_ret (results_cell_row rfl _ _ w.heap.size 28 zeroTxn (0, 0) _ rfl (heap_alloc_new _ _) Try.underlying28 rfl size28) rfl ?_
    exact ⟨rfl, (Below.refl _ _).alloc (Nat.le_refl _) _⟩
  · have d0 : decide (n < 0) = false := by simp; omega
    have d1 : decide ((0 : Int) ≤ n) = true := by simp; omega
    have A := Lib.hid h
    clear h
    go_enter Try.func20, Try.ntmps20
    go_wp2_with fail
    refine (count_no p _ (A.out.below ((Below.refl _ _).alloc (Nat.le_refl _) _))).mono ?_
    rintro e w1 ⟨rfl, rfl⟩
    go_wp2
    refine bodyPost_ret (results_cell_row rfl _ _ w.heap.size 28 zeroTxn (0, 0) _ rfl (heap_alloc_new _ _) Try.underlying28 rfl size28) rfl ?_
    exact ⟨rfl, (Below.refl _ _).alloc (Nat.le_refl _) _⟩

theorem field28 (W : World) : (Instr.field 28 (.agg #[.int .i64 0, .int .i64 0, .int .i64 0, .int .i64 0, .slice none 0 0]) 4).run Try.prog W = .ok (.slice none 0 0) W := by kernel_rfl
set_option maxRecDepth 20000 in
set_option maxHeartbeats 1000000 in
theorem final_no (p : Value) (n : Int) (w : World) (h : Nobody w p) : Calls Try.prog 8 #[p, .agg #[.int .i64 n, .int .i64 0]] w (Tells w (.bool false)) := by
  have A := Lib.hid h
  clear h
  go_enter Try.func8, Try.ntmps8
  go_wp2_with fail
  refine (txn_no p n _ (A.out.below ((Below.refl _ _).alloc (Nat.le_refl _) _))).mono ?_
  rintro e w1 ⟨rfl, hb⟩
  unfold zeroTxn
  have hf := field28
  have B := Lib.hid hb
  have hblk : w1.heap[w.heap.size]? = some (.cells #[.int .i64 n, .int .i64 0] 34 (0, 0)) := (hb.block _ (by simp)).trans (heap_alloc_new _ _)
  have f0 : w1.cell? ⟨w.heap.size, 0, none⟩ = some (.int .i64 n) := by rw [cell_of_row w1 _ 0 _ _ _ hblk]; rfl
  have f1 : w1.cell? ⟨w.heap.size, 1, none⟩ = some (.int .i64 0) := by rw [cell_of_row w1 _ 1 _ _ _ hblk]; rfl
  have b2 : Below w1.heap.size w1 (w1.alloc (.cells #[.slice none 0 0] 26)) := (Below.refl _ _).alloc (Nat.le_refl _) _
  have g0 := old_cell b2 f0
  have g1 := old_cell b2 f1
  have C := Lib.hid b2
  clear hb hblk b2
  go_wp2
  go_ret
  exact ⟨rfl, below_then' (below_then' ((Below.refl _ _).alloc (Nat.le_refl _) _) B.out) C.out⟩
set_option maxRecDepth 20000 in
set_option maxHeartbeats 400000 in
theorem equal_no (f : Value) (w : World) : Calls Try.prog 39 #[.slice none 0 0, .slice none 0 0, f] w (Tells w (.bool true)) := by
  go_enter Try.func39, Try.ntmps39
  go_wp2
  go_loopw [17] (fun u wr => u = .int .i64 0 ∧ w = wr) (fun u _ => 0)
  case atStart => exact ⟨rfl, rfl⟩
  case round =>
    obtain ⟨rfl, rfl⟩ := hrel
    go_wp2
    go_ret
    exact ⟨rfl, Below.refl _ _⟩
set_option maxRecDepth 20000 in
set_option maxHeartbeats 400000 in
theorem sameops_no (w : World) : Calls Try.prog 31 #[.slice none 0 0, .slice none 0 0] w (Tells w (.bool true)) := by
  go_enter Try.func31, Try.ntmps31
  go_wp2_with fail
  refine (equal_no _ w).mono ?_
  rintro e w1 ⟨rfl, hb⟩
  have B := Lib.hid hb
  clear hb
  go_wp2
  go_ret
  exact ⟨rfl, B.out⟩
set_option maxRecDepth 20000 in
set_option maxHeartbeats 1000000 in
theorem sametxn_no (w : World) : Calls Try.prog 19 #[.agg zeroTxn, .agg zeroTxn] w (Tells w (.bool true)) := by
  unfold zeroTxn
  go_enter Try.func19, Try.ntmps19
  go_wp2_with fail
  refine (sameops_no _).mono ?_
  rintro e w1 ⟨rfl, hb⟩
  have B := Lib.hid hb
  clear hb
  go_wp2
  go_ret
  exact ⟨rfl, below_then' (((Below.refl _ _).alloc (Nat.le_refl _) _).alloc (by simp) _) B.out⟩
end Go.Proofs.Ytnfokndodnbaiaa
