/- The program's graph of dependencies. -/
import Derived.Test.YtcfbcfcoigifiaaDoorDa
set_option linter.unusedVariables false
set_option linter.unusedSimpArgs false
namespace Go.Proofs.YtcfbcfcoigifiaaDoor
open Go.RowKit

def DG (w : World) (n : Nat) (l : List WhyV) (e : Ending) (w' : World) : Prop := Below w.heap.size w w' ∧
  ((∃ r, firstBad n l = some r ∧ e = .returned (.tuple #[.pointer none, .int .i64 r])) ∨ ∃ g, firstBad n l = none ∧ e = .returned (.tuple #[.pointer (some ⟨g, 0, none⟩), .int .i64 0]) ∧ GrIs w' w.heap.size g n (bitsOf (labs l)))
def DRel (w wr : World) (n g : Nat) (l : List WhyV) (k : Nat) : Prop := (∀ (j : Nat) e', j < k → l[j]? = some e' → badOf n e' = none) ∧ Below w.heap.size w wr ∧ GrIs wr w.heap.size g n (bitsOf (labs (l.take k)))
theorem bad_pos {n : Nat} {a b c r : Int} (h : Bad n a b c r) : r = 60 ∨ r = 1 := by cases h <;> simp

set_option maxHeartbeats 1000000 in
theorem dgraph_in (n : Nat) (A : Option Addr) (cap : Nat) (l : List WhyV) (w : World) (hn : n ≤ 300) (hA : WhyAt w A l) (hlen : l.length ≤ 9223372036854775807) :
    Calls Tryd.prog 13 #[.int .i64 n, .slice A l.length cap] w (DG w n l) := by
  have H := Lib.hid hA
  clear hA
  go_enter Tryd.func13, Tryd.ntmps13
  go_wp2_with fail
  refine (graph_new n w hn).mono ?_
  rintro e w1 ⟨g, rfl, hb1, hg1⟩
  have B := Lib.hid (And.intro hb1 hg1)
  clear hb1 hg1
  go_wp2_with fail
  go_loopw [21] (fun u wr => ∃ k : Nat, k ≤ l.length ∧ u = .int .i64 k ∧ DRel w wr n g l k) (fun u _ => l.length - (intOf u).toNat)
  case atStart => exact ⟨0, Nat.zero_le _, rfl, fun j e' hj => absurd hj (by omega), B.out.1, B.out.2.congr fun t a b _ _ _ => by simp [bitsOf, labs]⟩
  case round =>
    obtain ⟨k, hk, rfl, R⟩ := hrel
    by_cases hlt : k < l.length
    · have hlt' : (k : Int) < (l.length : Int) := by omega
      obtain ⟨e, hek⟩ : ∃ e, l[k]? = some e := ⟨_, List.getElem?_eq_getElem hlt⟩
      obtain ⟨b, off, rfl, hW⟩ := H.out k e hek
      obtain ⟨d0, d1, d2, d3, d4, d5, d6, d7⟩ := hW.below R.2.1
      have E := Lib.hid hek
      obtain ⟨ea, eb, ec, ek, ex, ey, en, ed⟩ := e
      dsimp only at d0 d1 d2 d3 d4 d5 d6 d7
      have R2 := Lib.hid R
      clear R hW hek
      go_wp2_with fail
      have hbw := (Below.refl wr.heap.size wr).alloc (Nat.le_refl _) (.cells #[.int .i64 ea, .int .i64 eb, .int .i64 ec, .string ek, .int .i64 ex, .int .i64 ey, .bool en, .bool ed] 50)
      have hG := R2.out.2.2.below hbw
      have hB := below_then' R2.out.2.1 hbw
      clear d0 d1 d2 d3 d4 d5 d6 d7 hbw
      cases hbo : badOf n ⟨ea, eb, ec, ek, ex, ey, en, ed⟩ with
      | some r =>
        have hbad := badOf_some hbo
        dsimp only at hbad
        refine (bad20' hbad hG).mono ?_
        rintro e w' ⟨rfl, rfl⟩
        have Z := Lib.hid (And.intro hB (firstBad_at R2.out.1 E.out hbo))
        rcases bad_pos hbad with rfl | rfl
        all_goals
          clear hbad hbo hG hB
          go_wp2
          go_ret2
          exact ⟨Z.out.1, .inl ⟨_, Z.out.2, rfl⟩⟩
      | none =>
        obtain ⟨a', b', c', e1, e2, e3, ha, hb', hc1, hc2, hab⟩ := badOf_none hbo
        dsimp only at e1 e2 e3
        subst e1 e2 e3
        refine (add_edge w.heap.size g n a' b' c' _ _ ha hb' hc1 hc2 hab hG).mono ?_
        rintro e w' ⟨rfl, hg', hty⟩
        have Z := Lib.hid (show DRel w w' n g l (k + 1) from ⟨fun j e' hj he => by
            by_cases hjk : j < k
            · exact R2.out.1 j e' hjk he
            · obtain rfl : j = k := by omega
              rw [E.out] at he
              injection he with he
              rw [← he]; exact hbo, hB.trans (hty.below hB.size),
          hg'.congr fun t x y ht _ _ => by rw [labs_take E.out rfl rfl rfl]; exact add_bits _ a' b' c' (by omega) t x y ht⟩)
        clear hbo hG hB hg' hty
        go_wp2
        go_roundw
        case rel => exact ⟨k + 1, by omega, by go_num, Z.out⟩
        case measure => simp [intOf]; omega
    · obtain rfl : k = l.length := by omega
      have S := Lib.hid R
      clear R
      go_wp2
      go_ret2
      exact ⟨S.out.2.1, .inr ⟨_, firstBad_none S.out.1, rfl, by have := S.out.2.2; rwa [List.take_length] at this⟩⟩
end Go.Proofs.YtcfbcfcoigifiaaDoor
