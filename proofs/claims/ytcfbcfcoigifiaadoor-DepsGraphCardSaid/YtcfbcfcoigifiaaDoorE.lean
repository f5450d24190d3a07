/- All members of a set, rising. -/
import Derived.Test.YtcfbcfcoigifiaaDoorD
import Derived.Deep.LoopGhost
set_option linter.unusedVariables false
set_option linter.unusedSimpArgs false
namespace Go.Proofs.YtcfbcfcoigifiaaDoor
open Go.RowKit

def mem (S : Nat → Bool) (n : Nat) : List Nat := (List.range n).filter S
def ints (L : List Nat) : List Value := L.map fun (x : Nat) => .int .i64 (x : Int)
theorem mem_zero (S : Nat → Bool) : mem S 0 = [] := rfl
theorem mem_hit {S : Nat → Bool} {j : Nat} (h : S j = true) : mem S (j + 1) = mem S j ++ [j] := by
  simp [mem, List.range_succ, List.filter_append, h]
theorem mem_miss {S : Nat → Bool} {j : Nat} (h : S j = false) : mem S (j + 1) = mem S j := by
  simp [mem, List.range_succ, List.filter_append, h]
theorem mem_gap {S : Nat → Bool} {i : Nat} : ∀ j, i ≤ j → (∀ t, i ≤ t → t < j → S t = false) → mem S j = mem S i
  | 0, h, _ => by obtain rfl : i = 0 := by omega
                  rfl
  | j + 1, h, hno => by
    by_cases e : i = j + 1
    · rw [e]
    · rw [mem_miss (hno j (by omega) (by omega)), mem_gap j (by omega) (fun t h1 h2 => hno t h1 (by omega))]
theorem mem_length (S : Nat → Bool) (n : Nat) : (mem S n).length ≤ n := by
  have := List.length_filter_le S (List.range n)
  simpa [mem] using this
theorem ints_append (L M : List Nat) : ints (L ++ M) = ints L ++ ints M := by simp [ints]
theorem ints_length (L : List Nat) : (ints L).length = L.length := by simp [ints]

/-- A row of the call's own, of whole numbers. -/
def OwnInts (w : World) (base : Nat) (v : Value) (L : List Nat) : Prop := w.ownsRow base 3 1 v L.length (ints L)

def ListRel (w : World) (n : Nat) (S : Nat → Bool) (k : Nat) (l i ok : Value) (wr : World) : Prop :=
  Below w.heap.size w wr ∧ ∃ L, OwnInts wr w.heap.size l L ∧
    ((∃ j, n - j ≤ k ∧ j < n ∧ S j = true ∧ i = .int .i64 (j : Nat) ∧ ok = .bool true ∧ L = mem S j) ∨ (i = .int .i64 0 ∧ ok = .bool false ∧ L = mem S n))
def ListIn (w : World) (n : Nat) (S : Nat → Bool) (e : Ending) (w' : World) : Prop := ∃ v, e = .returned v ∧ Below w.heap.size w w' ∧ OwnInts w' w.heap.size v (mem S n)

theorem list_next {n i : Nat} {S : Nat → Bool} {v : Value} (hi : i ≤ n) (h : NextIs n i S v) : ∃ a b, v = .tuple #[a, b] ∧
    ((∃ j, i ≤ j ∧ j < n ∧ S j = true ∧ a = .int .i64 (j : Nat) ∧ b = .bool true ∧ mem S j = mem S i) ∨ (a = .int .i64 0 ∧ b = .bool false ∧ mem S n = mem S i)) := by
  rcases h with ⟨j, h1, h2, h3, h4, rfl⟩ | ⟨h1, rfl⟩
  · exact ⟨_, _, rfl, .inl ⟨j, h1, h2, h3, rfl, rfl, mem_gap j h1 h4⟩⟩
  · exact ⟨_, _, rfl, .inr ⟨rfl, rfl, mem_gap n hi h1⟩⟩

theorem one_cell1 {v : Value} (h : v.oneCell' = true) : ∀ u ∈ [v], u.oneCell' = true := by
  intro u hu
  rcases List.mem_singleton.1 hu with rfl
  exact h
theorem own_append {w : World} {base : Nat} {v : Value} {L : List Nat} {x : Nat} (h : w.ownsRow base 3 1 v (L.length + 1) (ints L ++ [.int .i64 (x : Int)])) : OwnInts w base v (L ++ [x]) := by
  unfold OwnInts
  rw [ints_append, List.length_append]
  exact h
theorem own_base' {w : World} {base e size n : Nat} {v : Value} {xs : List Value} (h : w.ownsRow base e size v n xs) : ∀ k, v.ownBlock = some k → base ≤ k := fun k hk => (h.lt k hk).1

theorem list_end {w wr w1 : World} {n j k : Nat} {S : Nat → Bool} {v v' a b : Value} (hb : Below w.heap.size w wr) (hown : OwnInts wr w.heap.size v (mem S j)) (hj : j < n) (hk : n - j ≤ k) (hS : S j = true)
    (h1 : w1.ownsRow w.heap.size 3 1 v' ((mem S j).length + 1) (ints (mem S j) ++ [.int .i64 (j : Int)])) (h2 : (wr.alloc (.cells #[.int .i64 (j : Int)] 3)).grownBy w1 v.ownBlock)
    (hab : (∃ t, j + 1 ≤ t ∧ t < n ∧ S t = true ∧ a = .int .i64 (t : Nat) ∧ b = .bool true ∧ mem S t = mem S (j + 1)) ∨ (a = .int .i64 0 ∧ b = .bool false ∧ mem S n = mem S (j + 1))) :
    ∃ k', k' < k ∧ ListRel w n S k' v' a b w1 := by
  have hb1 : Below w.heap.size w w1 := (hb.alloc hb.size _).grown h2 (by have := hb.size; simp; omega) (own_base' hown)
  have ho := own_append h1
  rw [← mem_hit hS] at ho
  rcases hab with ⟨t, t1, t2, t3, rfl, rfl, t4⟩ | ⟨rfl, rfl, t4⟩
  · exact ⟨n - t, by omega, hb1, _, ho, .inl ⟨t, Nat.le_refl _, t2, t3, rfl, rfl, t4.symm⟩⟩
  · exact ⟨0, by omega, hb1, _, ho, .inr ⟨rfl, rfl, t4.symm⟩⟩

set_option maxHeartbeats 1000000 in
theorem list_in (p q n : Nat) (S : Nat → Bool) (w : World) (h : SetIs w p q n S) (hT : Tab w) (hn : n ≤ 4096) :
    Calls Tryd.prog 32 #[.pointer (some ⟨p, 0, none⟩)] w (ListIn w n S) := by
  obtain ⟨i0, hi, hz0, hz1, hz2⟩ := info_parts Tryd.info3
  have A := Lib.hid (And.intro h hT)
  clear h hT
  go_enter Tryd.func32, Tryd.ntmps32
  go_wp2_with fail
  refine (next_in p q n 0 S w A.out.1 A.out.2 (Nat.zero_le _)).mono ?_
  rintro e w' ⟨v, rfl, rfl, hv⟩
  obtain ⟨a, b, rfl, hab⟩ := list_next (Nat.zero_le _) hv
  have B := Lib.hid hab
  clear hv hab
  go_wp2_with fail
  go_loopg [3, 4, 5] n (fun k l i ok wr => ListRel w n S k l i ok wr)
  case atStart =>
    refine ⟨Below.refl _ _, [], World.ownsRow_nil _ _ _ _, ?_⟩
    rcases B.out with ⟨j, h1, h2, h3, rfl, rfl, h4⟩ | ⟨rfl, rfl, h4⟩
    · exact .inl ⟨j, by omega, h2, h3, rfl, rfl, h4.symm⟩
    · exact .inr ⟨rfl, rfl, h4.symm⟩
  case round =>
    obtain ⟨hb, L, hown, h⟩ := hrel
    rcases h with ⟨j, hk, hj, hS, rfl, rfl, rfl⟩ | ⟨rfl, rfl, rfl⟩
    · have hlen := mem_length S j
      go_wp2_with (at_builtin; refine wpList_append_own _ rfl _ _ 27 rfl w.heap.size 3 i0 (.int .i64 0) 1 8 Tryd.underlying27 hi hz0 hz1 hz2 rfl (by decide) _ _ _ rfl (hown.alloc _) ⟨wr.heap.size, 0, none⟩ 1 1 [.int .i64 j] rfl rfl (cell_one_new _ _ _) (one_cell1 rfl) (by unfold maxLen; omega) (by omega) (by have := hb.size; simp; omega) ?_)
      intro v' w1 hown' hgrow _
      have hb1 : Below w.heap.size w w1 := (hb.alloc hb.size _).grown hgrow (by have := hb.size; simp; omega) (own_base' hown)
      have C := Lib.hid (And.intro hb (And.intro hown (And.intro hown' (And.intro hgrow hb1))))
      have D := Lib.hid hS
      clear hb hown hown' hgrow hb1 hS
      go_wp2_with fail
      refine (next_in p q n (j + 1) S w1 (A.out.1.below C.out.2.2.2.2) (A.out.2.below C.out.2.2.2.2) (by omega)).mono ?_
      rintro e w' ⟨v2, rfl, rfl, hv⟩
      obtain ⟨a2, b2, rfl, hab⟩ := list_next (by omega) hv
      have B2 := Lib.hid hab
      clear hv hab
      go_wp2
      obtain ⟨k', hk', hr⟩ := list_end C.out.1 C.out.2.1 hj hk D.out C.out.2.2.1 C.out.2.2.2.1 B2.out
      go_roundg k'
      case measure => exact hk'
      case rel => exact hr
    · have C := Lib.hid (And.intro hb hown)
      clear hb hown
      go_wp2
      go_ret
      exact ⟨_, rfl, C.out.1, C.out.2⟩
end Go.Proofs.YtcfbcfcoigifiaaDoor
