/- Plain laws on labels as bits: no program is looked at here. -/
import Derived.Test.YtcfbcfcoigifiaaDoorK
set_option linter.unusedVariables false
set_option linter.unusedSimpArgs false
namespace Go.Proofs.YtcfbcfcoigifiaaDoor
open Go.RowKit

def low (c : Int) : Nat := (c % 18446744073709551616).toNat
theorem ofInt_low (c : Int) : (BitVec.ofInt 64 c).toNat = low c := by
  rw [BitVec.toNat_ofInt]; rfl
theorem and_low (a c : Int) : bits .and .i64 a c = IntKind.i64.wrap ((low a &&& low c : Nat) : Int) := by
  show IntKind.i64.wrap ((BitVec.ofInt 64 a &&& BitVec.ofInt 64 c).toNat : Int) = _
  rw [BitVec.toNat_and, ofInt_low, ofInt_low]
theorem low_nat (n : Nat) (h : n < 16) : low (n : Int) = n := by unfold low; omega
theorem and_small (a : Nat) (c : Int) (h : a < 16) : bits .and .i64 (a : Int) c = ((a &&& low c : Nat) : Int) := by
  rw [and_low, low_nat a h, wraps_i64_4]
  · omega
  · have : a &&& low c < 2 ^ 4 := Nat.lt_of_le_of_lt Nat.and_le_left h
    omega
theorem lab_bit (c : Int) (i : Nat) (hi : i < 4) : lab c i = (low c).testBit i := by
  have h1 : bits .and .i64 (c / 2 ^ i) 1 = (((low (c / 2 ^ i)) % 2 : Nat) : Int) := by
    rw [and_low, show low 1 = 1 from rfl, Nat.and_one_is_mod, wraps_i64_4] <;> omega
  unfold lab
  rw [h1, Nat.testBit_eq_decide_div_mod_eq]
  have h2 : ((low (c / 2 ^ i) % 2 : Nat) : Int) = ((low c / 2 ^ i % 2 : Nat) : Int) := by
    unfold low
    match i, hi with
    | 0, _ => simp
    | 1, _ => simp; omega
    | 2, _ => simp; omega
    | 3, _ => simp; omega
  rw [h2]
  have h3 : low c / 2 ^ i % 2 = 0 ∨ low c / 2 ^ i % 2 = 1 := by omega
  rcases h3 with h3 | h3 <;> rw [h3] <;> decide
theorem lab_nat (c i : Nat) (hc : c < 16) (hi : i < 4) : lab (c : Int) i = c.testBit i := by rw [lab_bit _ _ hi, low_nat c hc]
theorem testBit16 (x i : Nat) (hx : x < 16) (hi : 4 ≤ i) : x.testBit i = false := Nat.testBit_lt_two_pow (Nat.lt_of_lt_of_le hx (show 2 ^ 4 ≤ 2 ^ i from Nat.pow_le_pow_right (by decide) hi))

/-- The labels as bits. -/
def bitsOf (L : Nat → Nat → Nat) : Nat → Nat → Nat → Bool := fun i a b => (L a b).testBit i
/-- Is there an edge with some of the labels? -/
def edge (L : Nat → Nat → Nat) (c : Int) (a b : Nat) : Bool := bits .and .i64 ((L a b : Nat) : Int) c != 0
theorem edge_out (L : Nat → Nat → Nat) (c : Int) (a b : Nat) (h : L a b < 16) : outTo (bitsOf L) a c 4 b = edge L c a b := by
  unfold edge
  rw [and_small _ _ h]
  generalize hx : L a b = x at h
  have e : outTo (bitsOf L) a c 4 b = (((((low c).testBit 0 && x.testBit 0) || ((low c).testBit 1 && x.testBit 1)) || ((low c).testBit 2 && x.testBit 2)) || ((low c).testBit 3 && x.testBit 3)) := by
    simp only [outTo, bitsOf, hx, lab_bit _ _ (show 0 < 4 by decide), lab_bit _ _ (show 1 < 4 by decide), lab_bit _ _ (show 2 < 4 by decide), lab_bit _ _ (show 3 < 4 by decide), Bool.false_or]
  rw [e, Bool.eq_iff_iff]
  constructor
  · intro h1
    have hex : ∃ i, ((x &&& low c)).testBit i = true := by
      simp only [Bool.or_eq_true, Bool.and_eq_true] at h1
      rcases h1 with ((h1 | h1) | h1) | h1
      · exact ⟨0, by rw [Nat.testBit_and, h1.1, h1.2]; rfl⟩
      · exact ⟨1, by rw [Nat.testBit_and, h1.1, h1.2]; rfl⟩
      · exact ⟨2, by rw [Nat.testBit_and, h1.1, h1.2]; rfl⟩
      · exact ⟨3, by rw [Nat.testBit_and, h1.1, h1.2]; rfl⟩
    obtain ⟨i, hi⟩ := hex
    rw [bne_iff_ne]
    intro h0
    have h0 : x &&& low c = 0 := by omega
    rw [h0, Nat.zero_testBit] at hi
    cases hi
  · intro h1
    rw [bne_iff_ne] at h1
    have h1 : x &&& low c ≠ 0 := fun h0 => h1 (by rw [h0]; rfl)
    obtain ⟨i, hi⟩ := Nat.exists_testBit_of_ne_zero h1
    rw [Nat.testBit_and, Bool.and_eq_true] at hi
    have h4 : i < 4 := by
      apply Nat.lt_of_not_le
      intro h4
      rw [testBit16 x i h h4] at hi
      cases hi.1
    match i, h4, hi with
    | 0, _, hi => simp [hi.1, hi.2]
    | 1, _, hi => simp [hi.1, hi.2]
    | 2, _, hi => simp [hi.1, hi.2]
    | 3, _, hi => simp [hi.1, hi.2]
theorem add_bits (L : Nat → Nat → Nat) (a b c : Nat) (hc : c < 16) (t x y : Nat) (ht : t < 4) : addTo (bitsOf L) a b (c : Int) 4 t x y = bitsOf (orAt L a b c) t x y := by
  unfold addTo bitsOf orAt
  rw [lab_nat c t hc ht]
  by_cases ex : x = a
  · subst ex
    rw [upd_same]
    by_cases ey : y = b
    · subst ey
      rw [upd_same, Nat.testBit_or]
      simp [ht]
    · rw [upd_other _ _ ey]
      simp [ey]
  · rw [upd_other _ _ ex]
    simp [ex]
theorem orAt_lt (L : Nat → Nat → Nat) (a b c : Nat) (hc : c < 16) (hL : ∀ x y, L x y < 16) (x y : Nat) : orAt L a b c x y < 16 := by
  unfold orAt upd
  by_cases h : x = a
  · rw [if_pos h]
    by_cases h2 : y = b
    · rw [if_pos h2]; exact Nat.or_lt_two_pow (n := 4) (hL _ _) hc
    · rw [if_neg h2]; exact hL _ _
  · rw [if_neg h]; exact hL _ _
theorem GrIs.congr {w : World} {base g n : Nat} {M M' : Nat → Nat → Nat → Bool} (h : GrIs w base g n M) (e : ∀ t x y, t < 4 → x < n → y < n → M t x y = M' t x y) : GrIs w base g n M' := by
  obtain ⟨v, p, q, h⟩ := h
  exact ⟨v, p, q, h.hdr, h.gb, h.n_le, h.rows, fun i hi j hj => ⟨(h.sets i hi j hj).1.congr fun y hy => e i j y hi hj hy, (h.sets i hi j hj).2⟩, h.inj, h.apart⟩
theorem mem_congr {S S' : Nat → Bool} {n : Nat} (h : ∀ i, i < n → S i = S' i) : mem S n = mem S' n := by
  unfold mem
  apply List.filter_congr
  intro i hi
  exact h i (List.mem_range.1 hi)
end Go.Proofs.YtcfbcfcoigifiaaDoor
