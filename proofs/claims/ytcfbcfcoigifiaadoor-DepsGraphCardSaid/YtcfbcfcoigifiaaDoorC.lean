/- The union of two sets in place, and the least member from a number on. -/
import Derived.Test.YtcfbcfcoigifiaaDoorB
set_option linter.unusedVariables false
set_option linter.unusedSimpArgs false
namespace Go.Proofs.YtcfbcfcoigifiaaDoor
open Go.RowKit

set_option maxHeartbeats 400000 in
theorem or1 (x y : Int) (w : World) : Calls Tryd.prog 37 #[.int .u64 x, .int .u64 y] w fun e w' => e = .returned (.int .u64 (bits .or .u64 x y)) ∧ w' = w := by
  go_enter Tryd.func37, Tryd.ntmps37
  go_wp2
  go_ret
  exact ⟨rfl, rfl⟩

def orTo (ws us : List Nat) (k : Nat) : List Nat := List.zipWith (· ||| ·) (ws.take k) (us.take k) ++ ws.drop k
theorem orTo_zero (ws us : List Nat) : orTo ws us 0 = ws := by simp [orTo]
theorem orTo_end (ws us : List Nat) (h : us.length = ws.length) : orTo ws us ws.length = List.zipWith (· ||| ·) ws us := by
  unfold orTo
  rw [List.take_of_length_le (Nat.le_refl _), List.take_of_length_le (by omega), List.drop_eq_nil_of_le (Nat.le_refl _), List.append_nil]
theorem orTo_length (ws us : List Nat) (h : us.length = ws.length) (k : Nat) (hk : k ≤ ws.length) : (orTo ws us k).length = ws.length := by
  simp [orTo]; omega
theorem orTo_at (ws us : List Nat) (h : us.length = ws.length) (k : Nat) (hk : k < ws.length) : (orTo ws us k).getD k 0 = ws.getD k 0 := by
  unfold orTo
  simp only [List.getD_eq_getElem?_getD]
  rw [List.getElem?_append_right (by simp; omega)]
  simp [List.getElem?_drop]
  congr 2
  omega
theorem orTo_step (ws us : List Nat) (h : us.length = ws.length) (k : Nat) (hk : k < ws.length) : (orTo ws us k).set k (ws.getD k 0 ||| us.getD k 0) = orTo ws us (k + 1) := by
  apply List.ext_getElem?
  intro j
  unfold orTo
  have hl : (List.zipWith (fun x1 x2 => x1 ||| x2) (List.take k ws) (List.take k us)).length = k := by simp; omega
  have hl1 : (List.zipWith (fun x1 x2 => x1 ||| x2) (List.take (k + 1) ws) (List.take (k + 1) us)).length = k + 1 := by simp; omega
  rw [List.getElem?_set]
  by_cases hj : k = j
  · subst hj
    rw [if_pos rfl, if_pos (by simp; omega), List.getElem?_append_left (by omega)]
    simp [List.getElem?_zipWith, List.getElem?_take, List.getD_eq_getElem?_getD, List.getElem?_eq_getElem hk, List.getElem?_eq_getElem (show k < us.length by omega)]
  · rw [if_neg hj]
    by_cases hlt : j < k
    · rw [List.getElem?_append_left (by omega), List.getElem?_append_left (by omega)]
      simp [List.getElem?_zipWith, List.getElem?_take, hlt, show j < k + 1 by omega]
    · rw [List.getElem?_append_right (by omega), List.getElem?_append_right (by omega), hl, hl1]
      simp only [List.getElem?_drop]
      congr 1
      omega

def OrIn (w : World) (p q n : Nat) (S : Nat → Bool) (e : Ending) (w' : World) : Prop := (∃ b, e = .returned (.tuple #[.bool b, .int .i64 0])) ∧ SetIs w' p q n S ∧ w.grownBy w' (some q)

theorem or_close {w' : World} {p q n : Nat} {ws us : List Nat} {S T : Nat → Bool} (hl : us.length = ws.length)
    (hS : ∀ i, bitAt ws i = (decide (i < n) && S i)) (hT : ∀ i, bitAt us i = (decide (i < n) && T i)) (h : SetRow w' p q n (orTo ws us ws.length)) : SetIs w' p q n (fun i => S i || T i) := by
  refine ⟨_, h, fun i => ?_⟩
  rw [orTo_end ws us hl, bitAt_or ws us hl, hS, hT]
  cases decide (i < n) <;> simp

theorem or_round {wr : World} {p q p' q' n k : Nat} {ws us : List Nat} (hl : us.length = ws.length) (hk : k < ws.length) (h : SetRow wr p q n (orTo ws us k)) (h' : SetRow wr p' q' n us) (hne : q ≠ q') :
    SetRow (wr.drew.setCell ⟨q, k, none⟩ (.int .u64 (bits .or .u64 ((ws.getD k 0 : Nat) : Int) ((us.getD k 0 : Nat) : Int)))) p q n (orTo ws us (k + 1)) ∧
    SetRow (wr.drew.setCell ⟨q, k, none⟩ (.int .u64 (bits .or .u64 ((ws.getD k 0 : Nat) : Int) ((us.getD k 0 : Nat) : Int)))) p' q' n us := by
  have hw := h.wlt k
  rw [orTo_at ws us hl k hk] at hw
  rw [or_wrap _ _ hw (h'.wlt k)]
  have hd : SetRow wr.drew p q n (orTo ws us k) := h.keep rfl rfl
  have := hd.put k (ws.getD k 0 ||| us.getD k 0) (Nat.or_lt_two_pow (n := 64) hw (h'.wlt k))
  rw [orTo_step ws us hl k hk] at this
  refine ⟨this, h'.keep ?_ ?_⟩
  · exact heap_setCell_other wr.drew ⟨q, k, none⟩ p' _ (by exact h'.ne h)
  · exact heap_setCell_other wr.drew ⟨q, k, none⟩ q' _ (by exact fun e => hne e.symm)

structure OrRel (w wr : World) (p q p' q' n : Nat) (ws us : List Nat) (k : Nat) : Prop where
  one : SetRow wr p q n (orTo ws us k)
  two : SetRow wr p' q' n us
  ty : w.grownBy wr (some q)
theorem or_start {w : World} {p q p' q' n : Nat} {ws us : List Nat} (h : SetRow w p q n ws) (h' : SetRow w p' q' n us) (m : Nat) : OrRel w (w.drewN m) p q p' q' n ws us 0 :=
  ⟨by rw [orTo_zero]; exact h.keep rfl rfl, h'.keep rfl rfl, grown_drewN (World.grownBy.refl _ _) m⟩
section
variable {w wr : World} {p q p' q' n : Nat} {ws us : List Nat} {k : Nat}
theorem OrRel.c0 (h : OrRel w wr p q p' q' n ws us k) (hl : us.length = ws.length) (hk : k ≤ ws.length) : wr.cell? ⟨p, 0, none⟩ = some (.slice (some ⟨q, 0, none⟩) ws.length ws.length) := by
  have := h.one.c0
  rw [orTo_length ws us hl k hk] at this
  exact this
theorem OrRel.d0 (h : OrRel w wr p q p' q' n ws us k) : wr.cell? ⟨p', 0, none⟩ = some (.slice (some ⟨q', 0, none⟩) us.length us.length) := h.two.c0
theorem OrRel.word (h : OrRel w wr p q p' q' n ws us k) (hl : us.length = ws.length) (hk : k < ws.length) : wr.cell? ⟨q, k, none⟩ = some (.int .u64 ((ws.getD k 0 : Nat) : Int)) := by
  have := h.one.word k (by rw [orTo_length ws us hl k (by omega)]; exact hk)
  rw [orTo_at ws us hl k hk] at this
  exact this
theorem OrRel.other (h : OrRel w wr p q p' q' n ws us k) (hl : us.length = ws.length) (hk : k < ws.length) : wr.cell? ⟨q', k, none⟩ = some (.int .u64 ((us.getD k 0 : Nat) : Int)) := h.two.word k (by omega)
theorem OrRel.free (h : OrRel w wr p q p' q' n ws us k) : wr.frozen? ⟨q, k, none⟩ = false := h.one.free k
theorem OrRel.step (h : OrRel w wr p q p' q' n ws us k) (hl : us.length = ws.length) (hk : k < ws.length) (hne : q ≠ q') :
    OrRel w (wr.drew.setCell ⟨q, k, none⟩ (.int .u64 (bits .or .u64 ((ws.getD k 0 : Nat) : Int) ((us.getD k 0 : Nat) : Int)))) p q p' q' n ws us (k + 1) := by
  obtain ⟨r1, r2⟩ := or_round hl hk h.one h.two hne
  refine ⟨r1, r2, ?_⟩
  have hd : SetRow wr.drew p q n (orTo ws us k) := h.one.keep rfl rfl
  have h1 : w.grownBy wr.drew (some q) := ⟨h.ty.os, h.ty.tape, h.ty.output, h.ty.size, h.ty.block⟩
  exact h1.trans (hd.put_grown _ _)
end

set_option maxHeartbeats 1000000 in
theorem with_or (p q p' q' n : Nat) (S T : Nat → Bool) (w : World) (h : SetIs w p q n S) (h' : SetIs w p' q' n T) (hne : q ≠ q') :
    Calls Tryd.prog 36 #[.pointer (some ⟨p, 0, none⟩), .pointer (some ⟨p', 0, none⟩), .func (.func 37) #[] #[]] w (OrIn w p q n (fun i => S i || T i)) := by
  obtain ⟨ws, hr, hS⟩ := h
  obtain ⟨us, hr', hT⟩ := h'
  have hl : us.length = ws.length := by rw [hr.len, hr'.len]
  have hlm : ws.length ≤ 64 := by rw [hr.len]; have := hr.n_le; omega
  have a0 := hr.c0
  have a1 := hr.c1
  have b0 := hr'.c0
  have b1 := hr'.c1
  have n1 := none_made p w hr.c2
  have n2 := none_made p' w hr'.c2
  have A := Lib.hid (And.intro hr (And.intro hr' (And.intro hS (And.intro hT (And.intro n1 n2)))))
  have HL := Lib.hid hl
  clear hr hr' hS hT n1 n2 hl
  rw [HL.out] at b0
  go_enter Tryd.func36, Tryd.ntmps36
  go_wp2_with fail
  refine A.out.2.2.2.2.1.mono ?_
  rintro e w' ⟨rfl, rfl⟩
  go_wp2_with fail
  refine A.out.2.2.2.2.2.mono ?_
  rintro e w' ⟨rfl, rfl⟩
  go_wp2_with fail
  go_quiet (fail)
  go_wp2_with fail
  go_loopw [8, 33] (fun c i wr => ∃ k : Nat, ∃ b : Bool, k ≤ ws.length ∧ i = .int .i64 k ∧ c = .bool b ∧ OrRel w wr p q p' q' n ws us k) (fun _ i _ => ws.length - (intOf i).toNat)
  case atStart => exact ⟨0, false, Nat.zero_le _, rfl, rfl, or_start A.out.1 A.out.2.1 nq⟩
  case round =>
    obtain ⟨k, b, hk, rfl, rfl, R⟩ := hrel
    by_cases hlt : k < ws.length
    · have R0 := R.c0 HL.out hk
      have R1 := R.d0
      have Rw := R.word HL.out hlt
      have Ru := R.other HL.out hlt
      have Rf := R.free
      have Hs := R.step HL.out hlt hne
      have hpq : ¬ p = q := R.one.ne R.one
      have hqp : ¬ q = p := fun e => hpq e.symm
      obtain ⟨x, hx⟩ : ∃ x, x = ws.getD k 0 := ⟨_, rfl⟩
      obtain ⟨y, hy⟩ : ∃ y, y = us.getD k 0 := ⟨_, rfl⟩
      rw [← hx] at Rw Hs
      rw [← hy] at Ru Hs
      have R' := Lib.hid Hs
      clear R Hs hx hy
      rw [HL.out] at R1
      go_wp2_with fail
      refine wp_region_still_tail 16 (by kernel_rfl) (by kernel_rfl) ?_
      simp only [List.take_succ_cons, List.take_zero, List.drop_succ_cons, List.drop_zero]
      repeat still_step
      still_call (or1 _ _ _)
      repeat still_step
      refine wpStill_nil ?_
      change wpList _ _ _ _ _ wr.drew
      go_wp2
      all_goals go_roundw
      all_goals first | (case measure => simp [intOf]; omega) | skip
      all_goals exact ⟨k + 1, _, by omega, by go_num, rfl, R'.out⟩
    · obtain rfl : k = ws.length := by omega
      have R' := Lib.hid R
      clear R
      go_wp2
      go_ret2
      exact ⟨⟨_, rfl⟩, or_close HL.out A.out.2.2.1 A.out.2.2.2.1 R'.out.one, R'.out.ty⟩

set_option maxHeartbeats 400000 in
theorem or_in (p q p' q' n : Nat) (S T : Nat → Bool) (w : World) (h : SetIs w p q n S) (h' : SetIs w p' q' n T) (hne : q ≠ q') :
    Calls Tryd.prog 31 #[.pointer (some ⟨p, 0, none⟩), .pointer (some ⟨p', 0, none⟩)] w (OrIn w p q n (fun i => S i || T i)) := by
  have A := Lib.hid (with_or p q p' q' n S T w h h' hne)
  clear h h'
  go_enter Tryd.func31, Tryd.ntmps31
  go_wp2_with fail
  refine A.out.mono ?_
  rintro e w1 ⟨⟨b, rfl⟩, h2, h3⟩
  have B := Lib.hid (And.intro h2 h3)
  clear h2 h3
  go_wp2
  go_ret2
  exact ⟨⟨_, rfl⟩, B.out.1, B.out.2⟩
end Go.Proofs.YtcfbcfcoigifiaaDoor
