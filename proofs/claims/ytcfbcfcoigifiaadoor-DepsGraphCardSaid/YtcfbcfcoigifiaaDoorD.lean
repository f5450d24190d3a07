/- The least member from a number on, and all members, rising. -/
import Derived.Test.YtcfbcfcoigifiaaDoorC
set_option linter.unusedVariables false
set_option linter.unusedSimpArgs false
namespace Go.Proofs.YtcfbcfcoigifiaaDoor
open Go.RowKit

/-- The table of the library, as its initialiser lays it. -/
def Tab (w : World) : Prop := ∀ j, j < 64 → w.cell? ⟨0, j, none⟩ = some (.int .u8 ((Lib.deBruijn64tab.getD j 0 : Nat) : Int))
theorem Tab.pos {w : World} (h : Tab w) : 0 < w.heap.size := World.block_lt_of_cell? w ⟨0, 0, none⟩ (h 0 (by decide))
theorem Tab.below {w w' : World} (h : Tab w) (hb : Below w.heap.size w w') : Tab w' := fun j hj => (hb.cell (p := ⟨0, j, none⟩) h.pos).trans (h j hj)
theorem Tab.ty {w w' : World} {base T : Nat} (h : Tab w) (hb : Ty base T w w') (hp : 0 < base) : Tab w' := fun j hj => by
  rw [World.cell?_of_block (w := w) (w' := w') (a := ⟨0, j, none⟩) (hb.block 0 h.pos (.inl hp))]
  exact h j hj

set_option maxHeartbeats 1000000 in
theorem tz_core (x k idx : Nat) (w : World) (hx0 : ((x : Int) == 0) = false)
    (key : IntKind.u64.wrap (bits BinOp.and IntKind.u64 (x : Int) (IntKind.u64.wrap (-(x : Int))) * 285870213051353865) / 288230376151711744 = (idx : Int))
    (hi : idx < 64) (hk : k < 64) (hcell : w.cell? ⟨0, idx, none⟩ = some (.int .u8 k)) :
    Calls Tryd.prog 40 #[.int .u64 x] w fun e w' => e = .returned (.int .i64 k) ∧ w = w' := by
  go_enter Tryd.func40, Tryd.ntmps40
  go_wp2_with (simp only [key])
  go_ret
  exact ⟨rfl, rfl⟩

theorem tz_key (x a : Nat) (hx : x < 18446744073709551616) (hx0 : x ≠ 0) (hlow : x &&& (18446744073709551616 - x) = a) :
    IntKind.u64.wrap (bits BinOp.and IntKind.u64 (x : Int) (IntKind.u64.wrap (-(x : Int))) * 285870213051353865) / 288230376151711744 = ((a * 285870213051353865 % 18446744073709551616 / 288230376151711744 : Nat) : Int) := by
  have e1 : IntKind.u64.wrap (-(x : Int)) = ((18446744073709551616 - x : Nat) : Int) := by rw [IntKind.wrap_u64]; omega
  rw [e1, bits_and_u64_nat x _ hx (by omega), hlow, IntKind.wrap_u64]
  omega

theorem tz_ok (x : Nat) (hx : x < 18446744073709551616) (hx0 : x ≠ 0) (w : World) (hT : Tab w) :
    Calls Tryd.prog 40 #[.int .u64 x] w fun e w' => e = .returned (.int .i64 (Lib.ctz 64 x)) ∧ w = w' := by
  obtain ⟨hlow, hk⟩ := Lib.lowest_bit 64 x hx0 hx
  obtain ⟨hi, htab⟩ := Lib.deBruijn64_at _ hk
  have hcell := hT _ hi
  rw [htab] at hcell
  exact tz_core x _ _ w (by simp; omega) (tz_key x _ hx hx0 hlow) hi hk hcell

/-- The lowest bit that is set. -/
theorem ctz_bits (x : Nat) (hx : x < 18446744073709551616) (hx0 : x ≠ 0) : Lib.ctz 64 x < 64 ∧ x.testBit (Lib.ctz 64 x) = true ∧ ∀ j, j < Lib.ctz 64 x → x.testBit j = false := by
  obtain ⟨m, hm, hk⟩ := Lib.ctzFrom_spec 64 x (by omega) hx
  have e : Lib.ctz 64 x = Lib.ctzFrom 64 x := by simp [Lib.ctz, hx0]
  rw [e]
  generalize Lib.ctzFrom 64 x = c at *
  subst hm
  refine ⟨hk, ?_, fun j hj => ?_⟩
  · rw [Nat.mul_comm, Nat.testBit_mul_two_pow]; simp
  · rw [Nat.mul_comm, Nat.testBit_mul_two_pow]; simp; omega

def mask (x i : Nat) : Nat := x &&& (18446744073709551615 * 2 ^ (i % 64) % 18446744073709551616)
theorem mask_lt (x i : Nat) (hx : x < 18446744073709551616) : mask x i < 18446744073709551616 := Nat.lt_of_le_of_lt Nat.and_le_left hx
theorem mask_bit (x i j : Nat) (hj : j < 64) : (mask x i).testBit j = (x.testBit j && decide (i % 64 ≤ j)) := by
  unfold mask
  rw [Nat.testBit_and]
  congr 1
  have e : (18446744073709551616 : Nat) = 2 ^ 64 := rfl
  have e1 : (18446744073709551615 : Nat) = 2 ^ 64 - 1 := rfl
  rw [e, e1, Nat.testBit_mod_two_pow, Nat.testBit_mul_two_pow, Nat.testBit_two_pow_sub_one]
  simp [hj]
  intro _
  omega
theorem mask_key (x i : Nat) (hx : x < 18446744073709551616) : bits .and .u64 (x : Int) (IntKind.u64.wrap (18446744073709551615 * 2 ^ (i % 64))) = ((mask x i : Nat) : Int) := by
  have e : IntKind.u64.wrap (18446744073709551615 * 2 ^ (i % 64)) = ((18446744073709551615 * 2 ^ (i % 64) % 18446744073709551616 : Nat) : Int) := by
    rw [IntKind.wrap_u64, Int.natCast_emod, Int.natCast_mul, Int.natCast_pow]
    rfl
  rw [e, bits_and_u64_nat x _ hx (Nat.mod_lt _ (by decide))]
  rfl

/-- What Next tells from i on. -/
def NextIs (n i : Nat) (S : Nat → Bool) (v : Value) : Prop :=
  (∃ j, i ≤ j ∧ j < n ∧ S j = true ∧ (∀ t, i ≤ t → t < j → S t = false) ∧ v = .tuple #[.int .i64 j, .bool true]) ∨
  ((∀ t, i ≤ t → t < n → S t = false) ∧ v = .tuple #[.int .i64 0, .bool false])
def NextIn (w : World) (n i : Nat) (S : Nat → Bool) (e : Ending) (w' : World) : Prop := ∃ v, e = .returned v ∧ w = w' ∧ NextIs n i S v

theorem bit_of (ws : List Nat) (k t : Nat) (h1 : 64 * k ≤ t) (h2 : t < 64 * (k + 1)) : bitAt ws t = (ws.getD k 0).testBit (t - 64 * k) := by
  unfold bitAt
  have e : t / 64 = k := by omega
  have e2 : t % 64 = t - 64 * k := by omega
  rw [e, e2]

/-- The word of a round: masked in the first one. -/
def word (ws : List Nat) (i k : Nat) : Nat := if k = i / 64 then mask (ws.getD k 0) i else ws.getD k 0
theorem word_bit (ws : List Nat) (i k t : Nat) (hik : i / 64 ≤ k) (h1 : 64 * k ≤ t) (h2 : t < 64 * (k + 1)) : (word ws i k).testBit (t - 64 * k) = (bitAt ws t && decide (i ≤ t)) := by
  unfold word
  rw [bit_of ws k t h1 h2]
  split
  · rename_i e
    rw [mask_bit _ _ _ (by omega)]
    congr 1
    simp
    omega
  · have : i ≤ t := by omega
    simp [this]

theorem next_hit {ws : List Nat} {n i k : Nat} {S : Nat → Bool} (hS : ∀ i, bitAt ws i = (decide (i < n) && S i)) (hik : i / 64 ≤ k) (hno : ∀ t, i ≤ t → t < 64 * k → bitAt ws t = false) (hx : word ws i k < 18446744073709551616) (h0 : word ws i k ≠ 0) :
    NextIs n i S (.tuple #[.int .i64 ((k : Int) * 64 + (Lib.ctz 64 (word ws i k) : Int)), .bool true]) := by
  obtain ⟨c1, c2, c3⟩ := ctz_bits _ hx h0
  generalize hc : Lib.ctz 64 (word ws i k) = c at *
  have hb := word_bit ws i k (64 * k + c) hik (by omega) (by omega)
  rw [show 64 * k + c - 64 * k = c from by omega, c2] at hb
  have hb' := hb.symm
  rw [Bool.and_eq_true, hS, Bool.and_eq_true] at hb'
  refine .inl ⟨64 * k + c, of_decide_eq_true hb'.2, of_decide_eq_true hb'.1.1, hb'.1.2, fun t ht1 ht2 => ?_, ?_⟩
  · have hz : bitAt ws t = false := by
      by_cases ht : t < 64 * k
      · exact hno t ht1 ht
      · have := word_bit ws i k t hik (by omega) (by omega)
        rw [c3 _ (by omega)] at this
        simpa [ht1] using this.symm
    rw [hS] at hz
    have : t < n := by have := of_decide_eq_true hb'.1.1; omega
    simpa [this] using hz
  · have e : ((64 * k + c : Nat) : Int) = (k : Int) * 64 + (c : Int) := by omega
    rw [e]
theorem next_miss {ws : List Nat} {i k : Nat} (hik : i / 64 ≤ k) (hno : ∀ t, i ≤ t → t < 64 * k → bitAt ws t = false) (h0 : word ws i k = 0) : ∀ t, i ≤ t → t < 64 * (k + 1) → bitAt ws t = false := by
  intro t h1 h2
  by_cases ht : t < 64 * k
  · exact hno t h1 ht
  · have := word_bit ws i k t hik (by omega) (by omega)
    rw [h0, Nat.zero_testBit] at this
    simpa [h1] using this.symm
theorem next_none {ws : List Nat} {n i k : Nat} {S : Nat → Bool} (hS : ∀ i, bitAt ws i = (decide (i < n) && S i)) (hk : n ≤ 64 * k) (hno : ∀ t, i ≤ t → t < 64 * k → bitAt ws t = false) :
    NextIs n i S (.tuple #[.int .i64 0, .bool false]) := by
  refine .inr ⟨fun t h1 h2 => ?_, rfl⟩
  have := hno t h1 (by omega)
  rw [hS] at this
  simpa [h2] using this

set_option maxHeartbeats 1000000 in
theorem next_in (p q n i : Nat) (S : Nat → Bool) (w : World) (h : SetIs w p q n S) (hT : Tab w) (hi : i ≤ n) :
    Calls Tryd.prog 38 #[.pointer (some ⟨p, 0, none⟩), .int .i64 i] w (NextIn w n i S) := by
  obtain ⟨ws, hr, hS⟩ := h
  have hlm : ws.length ≤ 64 := by rw [hr.len]; have := hr.n_le; omega
  have hn := hr.n_le
  have a0 := hr.c0
  have n1 := none_made p w hr.c2
  have A := Lib.hid (And.intro hr (And.intro hS (And.intro hT n1)))
  clear hr hS n1 hT
  go_enter Tryd.func38, Tryd.ntmps38
  go_wp2_with fail
  refine A.out.2.2.2.mono ?_
  rintro e w' ⟨rfl, rfl⟩
  go_wp2_with fail
  go_loop [6] (fun u => ∃ k : Nat, u = .int .i64 k ∧ i / 64 ≤ k ∧ k ≤ ws.length ∧ Hid (∀ t, i ≤ t → t < 64 * k → bitAt ws t = false)) (fun u => ws.length - (intOf u).toNat)
  case atStart => exact ⟨i / 64, rfl, Nat.le_refl _, by have := A.out.1.len; omega, fun t h1 h2 => by omega⟩
  case round =>
    obtain ⟨k, rfl, hik, hk, hno⟩ := hrel
    by_cases hlt : k < ws.length
    · have Rw := A.out.1.word k hlt
      have hx := A.out.1.wlt k
      have hw : word ws i k < 18446744073709551616 := by unfold word; split; exact mask_lt _ _ hx; exact hx
      obtain ⟨x, hxe⟩ : ∃ x, x = ws.getD k 0 := ⟨_, rfl⟩
      rw [← hxe] at Rw
      obtain ⟨y, hye⟩ : ∃ y, y = word ws i k := ⟨_, rfl⟩
      rw [← hye] at hw
      have hhit := fun h0 : y ≠ 0 => next_hit A.out.2.1 hik hno.out (by rw [← hye]; exact hw) (by rw [← hye]; exact h0)
      have hmiss := fun h0 : y = 0 => next_miss hik hno.out (by rw [← hye]; exact h0)
      rw [← hye] at hhit
      have htz := fun h0 : y ≠ 0 => tz_ok y hw h0 w A.out.2.2.1
      have B := Lib.hid (And.intro hhit (And.intro hmiss htz))
      clear hhit hmiss htz
      by_cases he : k = i / 64
      · have hy : y = mask x i := by rw [hye, word, if_pos he, hxe]
        have hkey : bits .and .u64 (x : Int) (IntKind.u64.wrap (18446744073709551615 * 2 ^ (i % 64))) = (y : Int) := by rw [hy]; exact mask_key x i (by rw [hxe]; exact hx)
        have C := Lib.hid hkey
        have he' : k ≤ i / 64 := by omega
        clear hy hkey hx hxe hye he
        by_cases h0 : y = 0
        · have D := Lib.hid h0
          have h0' : ((y : Int) != 0) = false := by simp [h0]
          clear h0
          go_wp2_with (simp only [C.out])
          go_round
          case rel => exact ⟨k + 1, by go_num, by omega, by omega, B.out.2.1 D.out⟩
          case measure => simp [intOf]; omega
        · have D := Lib.hid h0
          have h0' : ((y : Int) != 0) = true := by simp [h0]
          have hc := (ctz_bits y hw h0).1
          clear h0
          go_wp2_with (first | simp only [C.out] | fail)
          refine (B.out.2.2 D.out).mono ?_
          rintro e w' ⟨rfl, rfl⟩
          go_wp2
          go_ret2
          exact ⟨_, rfl, rfl, B.out.1 D.out⟩
      · have hy : y = x := by rw [hye, word, if_neg he, hxe]
        subst hy
        have he' : i / 64 < k := by omega
        clear hx hxe hye he
        by_cases h0 : y = 0
        · have D := Lib.hid h0
          have h0' : ((y : Int) != 0) = false := by simp [h0]
          clear h0
          go_wp2
          go_round
          case rel => exact ⟨k + 1, by go_num, by omega, by omega, B.out.2.1 D.out⟩
          case measure => simp [intOf]; omega
        · have D := Lib.hid h0
          have h0' : ((y : Int) != 0) = true := by simp [h0]
          have hc := (ctz_bits y hw h0).1
          clear h0
          go_wp2_with fail
          refine (B.out.2.2 D.out).mono ?_
          rintro e w' ⟨rfl, rfl⟩
          go_wp2
          go_ret2
          exact ⟨_, rfl, rfl, B.out.1 D.out⟩
    · have hge : ws.length ≤ k := by omega
      go_wp2
      go_ret2
      exact ⟨_, rfl, rfl, next_none A.out.2.1 (by have := A.out.1.len; omega) hno.out⟩
end Go.Proofs.YtcfbcfcoigifiaaDoor
