/- Rows of counts; slices.Index and slices.Equal over whole numbers. -/
import Derived.Test.YtcfbcfcoigifiaaDoorM
set_option linter.unusedVariables false
set_option linter.unusedSimpArgs false
namespace Go.Proofs.YtcfbcfcoigifiaaDoor
open Go.RowKit

/-- A row of n whole numbers at the head of block b. -/
def RowF (w : World) (b n : Nat) (f : Nat → Int) : Prop := ∃ cs, w.heap[b]? = some (.cells cs 3 (0, 0)) ∧ cs.size = n ∧ ∀ m, m < n → cs[m]? = some (.int .i64 (f m))
section
variable {w w' : World} {b n : Nat} {f g : Nat → Int}
theorem RowF.lt (h : RowF w b n f) : b < w.heap.size := by obtain ⟨cs, h1, _⟩ := h; exact lt_of_some h1
theorem RowF.cell (h : RowF w b n f) (m : Nat) (hm : m < n) : w.cell? ⟨b, m, none⟩ = some (.int .i64 (f m)) := by
  obtain ⟨cs, h1, h2, h3⟩ := h
  rw [cell_of_row w b m _ _ _ h1, h3 m hm]
theorem RowF.free (h : RowF w b n f) (m : Nat) : w.frozen? ⟨b, m, none⟩ = false := by
  obtain ⟨cs, h1, _⟩ := h
  exact frozen_of_row w b m _ _ h1
theorem RowF.keep (h : RowF w b n f) (hb : w'.heap[b]? = w.heap[b]?) : RowF w' b n f := by
  obtain ⟨cs, h1, h2⟩ := h
  exact ⟨cs, hb.trans h1, h2⟩
theorem RowF.below (h : RowF w b n f) (hb : Below w.heap.size w w') : RowF w' b n f := h.keep (hb.block b h.lt)
theorem RowF.congr (h : RowF w b n f) (e : ∀ m, m < n → f m = g m) : RowF w b n g := by
  obtain ⟨cs, h1, h2, h3⟩ := h
  exact ⟨cs, h1, h2, fun m hm => by rw [h3 m hm, e m hm]⟩
theorem RowF.put (h : RowF w b n f) (m : Nat) (y : Int) : RowF (w.setCell ⟨b, m, none⟩ (.int .i64 y)) b n (upd f m y) := by
  obtain ⟨cs, h1, h2, h3⟩ := h
  refine ⟨_, heap_setCell_same w b m _ _ _ h1, by simpa using h2, fun t ht => ?_⟩
  rw [Array.getElem?_setIfInBounds]
  by_cases e : m = t
  · subst e
    rw [if_pos rfl, if_pos (by omega), upd_same]
  · rw [if_neg e, upd_other _ _ (fun h => e h.symm), h3 t ht]
end
theorem RowF.made (w : World) (n : Nat) : RowF (w.alloc (.cells (madeCells #[.int .i64 0] n) 3)) w.heap.size n (fun _ => 0) := by
  refine ⟨_, heap_alloc_new w _, size_madeCells _ _, fun m hm => ?_⟩
  rw [made_row, rowV_at _ _ _ hm]
  rfl

/-- Where a value stands first; -1: nowhere. -/
def idx (f : Nat → Int) (n : Nat) (x : Int) : Int := match (List.range n).find? (fun k => f k == x) with
  | some k => (k : Int)
  | none => -1
theorem find_range_hit {p : Nat → Bool} {n k : Nat} (hk : k < n) (hp : p k = true) (hno : ∀ t, t < k → p t = false) : (List.range n).find? p = some k := by
  have e : List.range n = List.range k ++ [k] ++ (List.range (n - k - 1)).map (k + 1 + ·) := by
    have h1 : n = k + 1 + (n - k - 1) := by omega
    rw [← List.range_succ]
    conv => lhs; rw [h1, List.range_add]
  have h0 : (List.range k).find? p = none := List.find?_eq_none.2 fun t ht => by simp [hno t (List.mem_range.1 ht)]
  rw [e, List.append_assoc, List.find?_append, h0]
  simp [hp]
theorem find_range_miss {p : Nat → Bool} {n : Nat} (hno : ∀ t, t < n → p t = false) : (List.range n).find? p = none :=
  List.find?_eq_none.2 fun t ht => by simp [hno t (List.mem_range.1 ht)]

set_option maxHeartbeats 400000 in
theorem index_in (b n c : Nat) (f : Nat → Int) (x : Int) (w : World) (h : RowF w b n f) (hn : n ≤ 1000000) :
    Calls Tryd.prog 24 #[.slice (some ⟨b, 0, none⟩) n c, .int .i64 x] w fun e w' => e = .returned (.int .i64 (idx f n x)) ∧ w = w' := by
  have A := Lib.hid h
  clear h
  go_enter Tryd.func24, Tryd.ntmps24
  go_wp2
  go_loop [8] (fun u => ∃ k : Nat, u = .int .i64 k ∧ k ≤ n ∧ Hid (∀ t, t < k → (f t == x) = false)) (fun u => n - (intOf u).toNat)
  case atStart => exact ⟨0, rfl, Nat.zero_le _, fun t ht => absurd ht (by omega)⟩
  case round =>
    obtain ⟨k, rfl, hk, hno⟩ := hrel
    by_cases hlt : k < n
    · have hc := A.out.cell k hlt
      obtain ⟨y, hy⟩ : ∃ y, y = f k := ⟨_, rfl⟩
      rw [← hy] at hc
      have B := Lib.hid hy
      clear hy
      by_cases he : x = y
      · have C := Lib.hid he
        have h1 : (x == y) = true := by simp [he]
        clear he
        go_wp2
        go_ret
        refine ⟨?_, rfl⟩
        have : idx f n x = (k : Int) := by
          unfold idx
          rw [find_range_hit hlt (by rw [← B.out, ← C.out]; simp) hno.out]
        rw [this]; rfl
      · have C := Lib.hid he
        have h1 : (x == y) = false := by simp [he]
        clear he
        go_wp2
        go_round
        case rel =>
          refine ⟨k + 1, by go_num, by omega, fun t ht => ?_⟩
          by_cases e : t = k
          · subst e
            rw [← B.out]
            simp
            exact fun e => C.out e.symm
          · exact hno.out t (by omega)
        case measure => simp [intOf]; omega
    · obtain rfl : k = n := by omega
      go_wp2
      go_ret
      refine ⟨?_, rfl⟩
      have : idx f k x = -1 := by
        unfold idx
        rw [find_range_miss hno.out]
      rw [this]; rfl

def EqIn (w : World) (e : Ending) (w' : World) : Prop := e = .returned (.bool true) ∧ Below w.heap.size w w'
theorem own_cells {w : World} {base : Nat} {v : Value} {L : List Nat} (h : OwnInts w base v L) : ∃ A c, v = .slice A L.length c ∧ ∀ t, t < L.length → ∃ g, A = some ⟨g, 0, none⟩ ∧ w.cell? ⟨g, t, none⟩ = some (.int .i64 ((L.getD t 0 : Nat) : Int)) := by
  rcases h.2 with ⟨rfl, h0⟩ | ⟨g, cap, cur, rfl, _⟩
  · exact ⟨none, 0, by rw [h0], fun t ht => absurd ht (by omega)⟩
  · refine ⟨_, cap, rfl, fun t ht => ⟨g, rfl, ?_⟩⟩
    have h' : w.ownsRow base 3 1 (.slice (some ⟨g, 0, none⟩) L.length cap) L.length (ints L) := h
    rw [h'.cellAt t (by omega)]
    simp [ints, List.getElem?_eq_getElem ht, List.getD_eq_getElem?_getD]

theorem drew_below {w wr : World} (h : Below w.heap.size w wr) (n : Nat) : Below w.heap.size w (wr.drewN n) := below_drewN' h n
set_option maxHeartbeats 400000 in
theorem equal_in (b1 b2 : Nat) (v1 v2 : Value) (L : List Nat) (w : World) (h1 : OwnInts w b1 v1 L) (h2 : OwnInts w b2 v2 L) (hn : L.length ≤ 1000000) :
    Calls Tryd.prog 11 #[v1, v2] w (EqIn w) := by
  obtain ⟨A1, c1, rfl, k1⟩ := own_cells h1
  obtain ⟨A2, c2, rfl, k2⟩ := own_cells h2
  have K := Lib.hid (And.intro k1 k2)
  clear k1 k2 h1 h2
  have e0 : ((L.length : Int) != (L.length : Int)) = false := by simp
  obtain ⟨n, hn'⟩ : ∃ n, n = L.length := ⟨_, rfl⟩
  rw [← hn'] at hn e0 K ⊢
  clear hn'
  go_enter Tryd.func11, Tryd.ntmps11
  go_wp2
  go_loopw [13] (fun u wr => ∃ k : Nat, k ≤ n ∧ u = .int .i64 k ∧ ∃ m, wr = w.drewN m) (fun u _ => n - (intOf u).toNat)
  case atStart => exact ⟨0, Nat.zero_le _, rfl, 0, rfl⟩
  case round =>
    obtain ⟨k, hk, rfl, m, rfl⟩ := hrel
    by_cases hlt : k < n
    · obtain ⟨g1, rfl, d1⟩ := K.out.1 k hlt
      obtain ⟨g2, rfl, d2⟩ := K.out.2 k hlt
      obtain ⟨y, hy⟩ : ∃ y, y = L.getD k 0 := ⟨_, rfl⟩
      rw [← hy] at d1 d2
      clear hy
      have hlt' : (k : Int) < (n : Int) := by omega
      go_wp2
      go_quiet (fail)
      go_wp2
      go_roundw
      case rel => exact ⟨k + 1, by omega, by go_num, m + nq, rfl⟩
      case measure => simp [intOf]; omega
    · obtain rfl : k = n := by omega
      go_wp2
      go_ret
      exact ⟨rfl, below_drewN' (Below.refl _ _) m⟩
end Go.Proofs.YtcfbcfcoigifiaaDoor
