/- What a set has; the labels of an edge. -/
import Derived.Test.YtcfbcfcoigifiaaDoorU
import Derived.Laws.BitsAllLaws
set_option linter.unusedVariables false
set_option linter.unusedSimpArgs false
namespace Go.Proofs.YtcfbcfcoigifiaaDoor
open Go.RowKit

def HasIn (w : World) (b : Bool) (e : Ending) (w' : World) : Prop := e = .returned (.bool b) ∧ ∃ m, w' = w.drewN m
theorem and_pow (x i : Nat) : x &&& 2 ^ i = if x.testBit i then 2 ^ i else 0 := by
  apply Nat.eq_of_testBit_eq
  intro j
  rw [Nat.testBit_and, Nat.testBit_two_pow]
  by_cases e : i = j
  · subst e
    cases h : x.testBit i <;> simp
  · cases h : x.testBit i <;> simp [e, Nat.testBit_two_pow]
theorem has_bit (x i : Nat) (hx : x < 18446744073709551616) : (bits .and .u64 (x : Int) ((2 ^ (i % 64) : Nat) : Int) != 0) = x.testBit (i % 64) := by
  rw [u64_and_nat _ _ hx (pow_lt i), and_pow]
  have : 2 ^ (i % 64) ≠ 0 := Nat.ne_of_gt (Nat.pos_of_neZero _)
  cases h : x.testBit (i % 64) with
  | false => simp
  | true =>
    simp only [if_true]
    rw [bne_iff_ne]
    omega
theorem has_bit' (x i : Nat) (hx : x < 18446744073709551616) : (bits .and .u64 (x : Int) ((2 : Int) ^ (i % 64)) != 0) = x.testBit (i % 64) := by
  rw [← has_bit x i hx]
  simp
theorem has_in (p q n i : Nat) (S : Nat → Bool) (w : World) (h : SetIs w p q n S) (hi : i < n) :
    Calls Tryd.prog 34 #[.pointer (some ⟨p, 0, none⟩), .int .i64 i] w (HasIn w (S i)) := by
  obtain ⟨ws, hr, hS⟩ := h
  have hw := hr.word (i / 64) (by rw [hr.len]; omega)
  have c0 := at_in p q ws.length n i w hi hr.len hr.n_le hr.c0 hr.c1 hr.c2
  have hb := hS i
  have hlt := hr.wlt (i / 64)
  unfold bitAt at hb
  obtain ⟨x, hx⟩ : ∃ x, x = ws.getD (i / 64) 0 := ⟨_, rfl⟩
  rw [← hx] at hw hb hlt
  have A := Lib.hid (And.intro c0 (And.intro hb hlt))
  clear hr hS c0 hb hlt hx
  go_enter Tryd.func34, Tryd.ntmps34
  go_wp2_with fail
  refine A.out.1.mono ?_
  rintro e w' ⟨m, rfl, rfl⟩
  go_wp2
  go_ret
  have key : (bits .and .u64 (x : Int) ((2 : Int) ^ (i % 64)) != 0) = S i := by rw [has_bit' _ _ A.out.2.2, A.out.2.1]; simp [hi]
  exact ⟨by rw [← key]; rfl, m, rfl⟩

/-- The labels below k of an edge. -/
def labTo (M : Nat → Nat → Nat → Bool) (a b : Nat) : Nat → Nat
  | 0 => 0
  | k + 1 => if M k a b then labTo M a b k ||| 2 ^ k else labTo M a b k
theorem labTo_lt (M : Nat → Nat → Nat → Bool) (a b : Nat) : ∀ k, k ≤ 4 → labTo M a b k < 16
  | 0, _ => by simp [labTo]
  | k + 1, h => by
    have := labTo_lt M a b k (by omega)
    unfold labTo
    split
    · exact Nat.or_lt_two_pow (n := 4) this (Nat.pow_lt_pow_right (m := k) (n := 4) (by omega) (by omega))
    · exact this
theorem labTo_congr {M M' : Nat → Nat → Nat → Bool} {a b a' b' : Nat} (h : ∀ k, M k a b = M' k a' b') : ∀ k, labTo M a b k = labTo M' a' b' k
  | 0 => rfl
  | k + 1 => by simp only [labTo, h, labTo_congr h k]
theorem labTo_bits (L : Nat → Nat → Nat) (a b : Nat) (h : L a b < 16) : labTo (bitsOf L) a b 4 = L a b := by
  have key : ∀ x : Fin 16, labTo (fun i _ _ => (x : Nat).testBit i) 0 0 4 = (x : Nat) := by decide
  rw [labTo_congr (M' := fun i _ _ => (L a b).testBit i) (a' := 0) (b' := 0) (fun k => rfl)]
  exact key ⟨L a b, h⟩

theorem pow4 (i : Nat) (h : i < 4) : wrap64 ((2 : Int) ^ i) = ((2 ^ i : Nat) : Int) := by
  have h1 : 2 ^ i < 2 ^ 4 := Nat.pow_lt_pow_right (by omega) h
  have h2 : ((2 : Int) ^ i) = ((2 ^ i : Nat) : Int) := by simp
  have h3 : (2 : Nat) ^ 4 = 16 := rfl
  rw [h2]
  generalize (2 : Nat) ^ i = t at h1
  exact IntWalk.wrap64_in _ ⟨by omega, by omega⟩
def LabelsIn (w : World) (x : Nat) (e : Ending) (w' : World) : Prop := e = .returned (.int .i64 (x : Int)) ∧ ∃ m, w' = w.drewN m
set_option maxHeartbeats 1000000 in
theorem labels_in (base g n a b : Nat) (M : Nat → Nat → Nat → Bool) (w : World) (ha : a < n) (hb : b < n) (h : GrIs w base g n M) :
    Calls Tryd.prog 26 #[.pointer (some ⟨g, 0, none⟩), .int .i64 a, .int .i64 b] w (LabelsIn w (labTo M a b 4)) := by
  obtain ⟨v, p, q, R⟩ := h
  have h0 := R.cn
  have hn := R.n_le
  have A := Lib.hid (And.intro (has_yes g n a w ha h0) R)
  clear R
  go_enter Tryd.func26, Tryd.ntmps26
  go_wp2_with fail
  refine A.out.1.mono ?_
  rintro e w' ⟨rfl, rfl⟩
  go_wp2_with fail
  go_loopw [7, 17] (fun x u wr => ∃ i : Nat, i ≤ 4 ∧ u = .int .i64 i ∧ x = .int .i64 (labTo M a b i : Nat) ∧ ∃ m, wr = w.drewN m) (fun _ u _ => 4 - (intOf u).toNat)
  case atStart => exact ⟨0, by omega, rfl, rfl, 0, rfl⟩
  case round =>
    obtain ⟨i, hi, rfl, rfl, m, rfl⟩ := hrel
    by_cases hlt : i < 4
    · have hd : (i : Int) < 4 := by omega
      have R2 : GrRow (w.drewN m) base g n (fun _ => n) v p q M := A.out.2.keep (fun k _ _ hk _ => rfl)
      have cv := R2.cv i hlt
      obtain ⟨rb, cap, hv, hcell⟩ := R2.row i hlt (by omega)
      rw [hv] at cv
      have ca := hcell a ha
      have hS := (R2.sets i hlt a ha).1
      have S' := Lib.hid hS
      obtain ⟨y, hy⟩ : ∃ y, y = labTo M a b i := ⟨_, rfl⟩
      rw [← hy]
      have Y := Lib.hid hy
      clear hv hcell hS R2 hy
      go_wp2_with fail
      refine (has_in (p i a) (q i a) n b _ _ S'.out hb).mono ?_
      rintro e w2 ⟨rfl, m2, rfl⟩
      cases hl : M i a b with
      | false =>
        have Z := Lib.hid (show y = labTo M a b (i + 1) by rw [Y.out]; simp [labTo, hl])
        clear hl
        go_wp2
        go_roundw
        case rel => exact ⟨i + 1, by omega, by go_num, by rw [← Z.out], _, rfl⟩
        case measure => simp [intOf]; omega
      | true =>
        have hlt1 := hlt
        have hlt := labTo_lt M a b i hi
        have Z := Lib.hid (show (((labTo M a b (i + 1)) : Nat) : Int) = bits .or .i64 (y : Int) (wrap64 ((2 : Int) ^ i)) by
          rw [pow4 i hlt1]
          rw [or4 y (2 ^ i) (by rw [Y.out]; exact hlt) (Nat.pow_lt_pow_right (m := i) (n := 4) (by omega) (by omega)), Y.out]; simp [labTo, hl])
        clear hl
        go_wp2
        go_roundw
        case rel => exact ⟨i + 1, by omega, by go_num, by rw [Z.out], _, rfl⟩
        case measure => simp [intOf]; omega
    · obtain rfl : i = 4 := by omega
      go_wp2
      go_ret
      exact ⟨rfl, m, rfl⟩
end Go.Proofs.YtcfbcfcoigifiaaDoor
