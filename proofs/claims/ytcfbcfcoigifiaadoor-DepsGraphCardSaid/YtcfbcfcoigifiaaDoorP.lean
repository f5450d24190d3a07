/- The document's order of a graph's nodes. -/
import Derived.Test.YtcfbcfcoigifiaaDoorO
set_option linter.unusedVariables false
set_option linter.unusedSimpArgs false
namespace Go.Proofs.YtcfbcfcoigifiaaDoor
open Go.RowKit

theorem Tryd.info4 : (Tryd.prog.info? 4).map (fun i => (i.zero, i.size, i.bytes)) = some (some (.bool false), 1, 1) := by kernel_rfl

/-- A row of n bools at the head of block b. -/
def RowB (w : World) (b n : Nat) (d : Nat → Bool) : Prop := ∃ cs, w.heap[b]? = some (.cells cs 4 (0, 0)) ∧ cs.size = n ∧ ∀ m, m < n → cs[m]? = some (.bool (d m))
section
variable {w w' : World} {b n : Nat} {f g : Nat → Bool}
theorem RowB.lt (h : RowB w b n f) : b < w.heap.size := by obtain ⟨cs, h1, _⟩ := h; exact lt_of_some h1
theorem RowB.cell (h : RowB w b n f) (m : Nat) (hm : m < n) : w.cell? ⟨b, m, none⟩ = some (.bool (f m)) := by
  obtain ⟨cs, h1, h2, h3⟩ := h
  rw [cell_of_row w b m _ _ _ h1, h3 m hm]
theorem RowB.free (h : RowB w b n f) (m : Nat) : w.frozen? ⟨b, m, none⟩ = false := by
  obtain ⟨cs, h1, _⟩ := h
  exact frozen_of_row w b m _ _ h1
theorem RowB.keep (h : RowB w b n f) (hb : w'.heap[b]? = w.heap[b]?) : RowB w' b n f := by
  obtain ⟨cs, h1, h2⟩ := h
  exact ⟨cs, hb.trans h1, h2⟩
theorem RowB.congr (h : RowB w b n f) (e : ∀ m, m < n → f m = g m) : RowB w b n g := by
  obtain ⟨cs, h1, h2, h3⟩ := h
  exact ⟨cs, h1, h2, fun m hm => by rw [h3 m hm, e m hm]⟩
theorem RowB.put (h : RowB w b n f) (m : Nat) (y : Bool) : RowB (w.setCell ⟨b, m, none⟩ (.bool y)) b n (upd f m y) := by
  obtain ⟨cs, h1, h2, h3⟩ := h
  refine ⟨_, heap_setCell_same w b m _ _ _ h1, by simpa using h2, fun t ht => ?_⟩
  rw [Array.getElem?_setIfInBounds]
  by_cases e : m = t
  · subst e
    rw [if_pos rfl, if_pos (by omega), upd_same]
  · rw [if_neg e, upd_other _ _ (fun h => e h.symm), h3 t ht]
end
theorem RowB.made (w : World) (n : Nat) : RowB (w.alloc (.cells (madeCells #[.bool false] n) 4)) w.heap.size n (fun _ => false) := by
  refine ⟨_, heap_alloc_new w _, size_madeCells _ _, fun m hm => ?_⟩
  simp [madeCells, hm, Nat.mod_one]

def freeAt (L : Nat → Nat → Nat) (c : Int) (n : Nat) (d : Nat → Bool) (k : Nat) : Bool := (List.range n).all fun a => d a || !edge L c a k
theorem free_no {L : Nat → Nat → Nat} {c : Int} {n : Nat} {d : Nat → Bool} {k m : Nat} (hm : m < n) (h1 : d m = false) (h2 : edge L c m k = true) : freeAt L c n d k = false := by
  unfold freeAt
  rw [← Bool.not_eq_true, List.all_eq_true]
  intro h
  have := h m (List.mem_range.2 hm)
  rw [h1, h2] at this
  cases this
theorem free_yes {L : Nat → Nat → Nat} {c : Int} {n : Nat} {d : Nat → Bool} {k : Nat} (h : ∀ m, m < n → (d m || !edge L c m k) = true) : freeAt L c n d k = true := by
  unfold freeAt
  rw [List.all_eq_true]
  exact fun m hm => h m (List.mem_range.1 hm)

set_option maxHeartbeats 1000000 in
theorem rfree (base x n b cc k : Nat) (L : Nat → Nat → Nat) (c : Int) (d : Nat → Bool) (w : World) (h : RefIs w base x n L) (hd : RowB w b n d) (hk : k < n) (hn : n ≤ 300) :
    Calls Tryd.prog 25 #[.pointer (some ⟨x, 0, none⟩), .int .i64 c, .int .i64 k, .slice (some ⟨b, 0, none⟩) n cc] w fun e w' => e = .returned (.bool (freeAt L c n d k)) ∧ w = w' := by
  obtain ⟨A, ca, h0⟩ := h.head
  have H := Lib.hid (And.intro h hd)
  clear h hd
  go_enter Tryd.func25, Tryd.ntmps25
  go_wp2_with fail
  go_loop [15] (fun u => ∃ m : Nat, u = .int .i64 m ∧ m ≤ n ∧ Hid (∀ t, t < m → (d t || !edge L c t k) = true)) (fun u => n - (intOf u).toNat)
  case atStart => exact ⟨0, rfl, Nat.zero_le _, fun t ht => absurd ht (by omega)⟩
  case round =>
    obtain ⟨m, rfl, hm, hno⟩ := hrel
    by_cases hlt : m < n
    · have cd := H.out.2.cell m hlt
      have hlt' : (m : Int) < (n : Int) := by omega
      cases hdm : d m with
      | true =>
        rw [hdm] at cd
        have R := Lib.hid hdm
        clear hdm
        go_wp2
        go_round
        case rel =>
          refine ⟨m + 1, by go_num, by omega, fun t ht => ?_⟩
          by_cases e : t = m
          · subst e; rw [R.out]; rfl
          · exact hno.out t (by omega)
        case measure => simp [intOf]; omega
      | false =>
        rw [hdm] at cd
        have R := Lib.hid hdm
        clear hdm
        go_wp2_with fail
        refine (rlabels base x n m k L w hlt hk H.out.1).mono ?_
        rintro e w' ⟨rfl, rfl⟩
        cases he : edge L c m k with
        | true =>
          have S := Lib.hid he
          unfold edge at he
          go_wp2
          go_ret
          exact ⟨by rw [free_no hlt R.out S.out]; rfl, rfl⟩
        | false =>
          have S := Lib.hid he
          unfold edge at he
          go_wp2
          go_round
          case rel =>
            refine ⟨m + 1, by go_num, by omega, fun t ht => ?_⟩
            by_cases e : t = m
            · subst e; rw [S.out]; simp
            · exact hno.out t (by omega)
          case measure => simp [intOf]; omega
    · obtain rfl : m = n := by omega
      go_wp2
      go_ret
      exact ⟨by rw [free_yes hno.out]; rfl, rfl⟩
end Go.Proofs.YtcfbcfcoigifiaaDoor
