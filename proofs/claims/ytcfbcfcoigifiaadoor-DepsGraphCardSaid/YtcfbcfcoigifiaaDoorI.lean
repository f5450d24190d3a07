/- What leads out of a node. -/
import Derived.Test.YtcfbcfcoigifiaaDoorH
set_option linter.unusedVariables false
set_option linter.unusedSimpArgs false
namespace Go.Proofs.YtcfbcfcoigifiaaDoor
open Go.RowKit

/-- Where edges of the first k labels, as far as they are asked for, lead from a node. -/
def outTo (M : Nat → Nat → Nat → Bool) (a : Nat) (c : Int) : Nat → Nat → Bool
  | 0, _ => false
  | k + 1, j => outTo M a c k j || (lab c k && M k a j)
def OutIn (w : World) (n a : Nat) (c : Int) (M : Nat → Nat → Nat → Bool) (e : Ending) (w' : World) : Prop := ∃ v, e = .returned v ∧ Below w.heap.size w w' ∧ OwnInts w' w.heap.size v (mem (outTo M a c 4) n)

def OutRel (w wr : World) (n a : Nat) (c : Int) (M : Nat → Nat → Nat → Bool) (p' q' i : Nat) : Prop := Below w.heap.size w wr ∧ SetIs wr p' q' n (outTo M a c i)
theorem OutRel.miss {w wr : World} {n a : Nat} {c : Int} {M : Nat → Nat → Nat → Bool} {p' q' i : Nat} (h : OutRel w wr n a c M p' q' i) (hl : lab c i = false) : OutRel w wr n a c M p' q' (i + 1) :=
  ⟨h.1, h.2.congr fun j _ => by simp [outTo, hl]⟩
theorem OutRel.hit {w wr w1 : World} {n a : Nat} {c : Int} {M : Nat → Nat → Nat → Bool} {p' q' i : Nat} (h : OutRel w wr n a c M p' q' i) (hl : lab c i = true) (hS : SetIs w1 p' q' n (fun j => outTo M a c i j || M i a j)) (hg : wr.grownBy w1 (some q')) (hq : w.heap.size ≤ q') : OutRel w w1 n a c M p' q' (i + 1) :=
  ⟨h.1.grown hg h.1.size (fun k hk => by injection hk with hk; omega), hS.congr fun j _ => by simp [outTo, hl]⟩

theorem own_lower {w : World} {base base' e size n : Nat} {v : Value} {xs : List Value} (h : w.ownsRow base e size v n xs) (hb : base' ≤ base) : w.ownsRow base' e size v n xs := by
  refine ⟨h.1, ?_⟩
  rcases h.2 with h2 | ⟨g, cap, cur, hv, hg, r⟩
  · exact .inl h2
  · exact .inr ⟨g, cap, cur, hv, by omega, r⟩

set_option maxHeartbeats 1000000 in
theorem out_in (base g n a : Nat) (c : Int) (M : Nat → Nat → Nat → Bool) (w : World) (ha : a < n) (h : GrIs w base g n M) (hT : Tab w) :
    Calls Tryd.prog 23 #[.pointer (some ⟨g, 0, none⟩), .int .i64 a, .int .i64 c] w (OutIn w n a c M) := by
  obtain ⟨v, p, q, R⟩ := h
  have h0 := R.cn
  have hn := R.n_le
  have A := Lib.hid (And.intro (has_yes g n a w ha h0) (And.intro R hT))
  clear R hT
  go_enter Tryd.func23, Tryd.ntmps23
  go_wp2_with fail
  refine A.out.1.mono ?_
  rintro e w' ⟨rfl, rfl⟩
  go_wp2_with fail
  refine (new_ok n w (by omega)).mono ?_
  rintro e w1 ⟨p', q', rfl, hp', hq', hb, hS⟩
  have B := Lib.hid (And.intro hb hS)
  clear hb hS
  go_wp2_with fail
  go_loopw [8, 26] (fun e u wr => ∃ i : Nat, i ≤ 4 ∧ u = .int .i64 i ∧ e = .int .i64 0 ∧ OutRel w wr n a c M p' q' i) (fun _ u _ => 4 - (intOf u).toNat)
  case atStart => exact ⟨0, by omega, rfl, rfl, B.out.1, B.out.2⟩
  case round =>
    obtain ⟨i, hi, rfl, rfl, hR⟩ := hrel
    by_cases hlt : i < 4
    · have hd : (i : Int) < 4 := by omega
      have R2 : GrRow wr base g n (fun _ => n) v p q M := A.out.2.1.keep (fun k _ _ hk _ => hR.1.block k (lt_of_some hk))
      have cv := R2.cv i hlt
      obtain ⟨rb, cap, hv, hcell⟩ := R2.row i hlt (by omega)
      rw [hv] at cv
      have ca := hcell a ha
      have hS := (R2.sets i hlt a ha).1
      have hne : q' ≠ q i a := by
        have := ((A.out.2.1.sets i hlt a ha).1.lt).2
        omega
      have R' := Lib.hid hR
      have S' := Lib.hid (And.intro hS hne)
      clear hR hv hcell hS R2 hne
      cases hl : lab c i with
      | false =>
        have R2 := Lib.hid (R'.out.miss hl)
        unfold lab at hl
        go_wp2
        go_roundw
        case rel => exact ⟨i + 1, by omega, by go_num, rfl, R2.out⟩
        case measure => simp [intOf]; omega
      | true =>
        have hl' := Lib.hid hl
        unfold lab at hl
        go_wp2_with fail
        refine (or_in p' q' (p i a) (q i a) n _ _ wr R'.out.2 S'.out.1 S'.out.2).mono ?_
        rintro e w2 ⟨⟨b, rfl⟩, hS1, hg1⟩
        have R2 := Lib.hid (R'.out.hit hl'.out hS1 hg1 hq')
        clear hS1 hg1
        go_wp2
        go_roundw
        case rel => exact ⟨i + 1, by omega, by go_num, rfl, R2.out⟩
        case measure => simp [intOf]; omega
    · obtain rfl : i = 4 := by omega
      have R' := Lib.hid hR
      clear hR
      go_wp2_with fail
      refine (list_in p' q' n _ wr R'.out.2 (A.out.2.2.below R'.out.1) (by omega)).mono ?_
      rintro e w2 ⟨v2, rfl, hb2, ho2⟩
      have C := Lib.hid (And.intro hb2 ho2)
      clear hb2 ho2
      go_wp2
      go_ret
      exact ⟨_, rfl, below_then' R'.out.1 C.out.1, own_lower C.out.2 R'.out.1.size⟩
end Go.Proofs.YtcfbcfcoigifiaaDoor
