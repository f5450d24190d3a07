/- The document's graph of dependencies. -/
import Derived.Test.YtcfbcfcoigifiaaDoorDb
set_option linter.unusedVariables false
set_option linter.unusedSimpArgs false
namespace Go.Proofs.YtcfbcfcoigifiaaDoor
open Go.RowKit

def XG (w : World) (n : Nat) (l : List WhyV) (e : Ending) (w' : World) : Prop := Below w.heap.size w w' ∧
  ((∃ r, firstBad n l = some r ∧ e = .returned (.tuple #[.pointer none, .int .i64 r])) ∨ ∃ x, firstBad n l = none ∧ e = .returned (.tuple #[.pointer (some ⟨x, 0, none⟩), .int .i64 0]) ∧ RefIs w' w.heap.size x n (labs l) ∧ ∀ a b, labs l a b < 16)
def XRel (w wr : World) (n g : Nat) (l : List WhyV) (k : Nat) : Prop := (∀ (j : Nat) e', j < k → l[j]? = some e' → badOf n e' = none) ∧ Below w.heap.size w wr ∧ RefIs wr w.heap.size g n (labs (l.take k))
theorem labs_take_lt {n k : Nat} {l : List WhyV} (h : ∀ (j : Nat) e', j < k → l[j]? = some e' → badOf n e' = none) : ∀ a b, labs (l.take k) a b < 16 :=
  labs_lt (n := n) (l.take k) fun j e' hj he => by
    rw [List.getElem?_take] at he
    split at he
    · exact h j e' (by omega) he
    · cases he

set_option maxHeartbeats 1000000 in
theorem xgraph_in (n : Nat) (A : Option Addr) (cap : Nat) (l : List WhyV) (w : World) (hn : n ≤ 300) (hA : WhyAt w A l) (hlen : l.length ≤ 9223372036854775807) :
    Calls Tryd.prog 14 #[.int .i64 n, .slice A l.length cap] w (XG w n l) := by
  have H := Lib.hid hA
  clear hA
  go_enter Tryd.func14, Tryd.ntmps14
  go_wp2_with fail
  refine (ref_new n w hn).mono ?_
  rintro e w1 ⟨g, rfl, hb1, hg1⟩
  have B := Lib.hid (And.intro hb1 hg1)
  clear hb1 hg1
  go_wp2_with fail
  go_loopw [21] (fun u wr => ∃ k : Nat, k ≤ l.length ∧ u = .int .i64 k ∧ XRel w wr n g l k) (fun u _ => l.length - (intOf u).toNat)
  case atStart => exact ⟨0, Nat.zero_le _, rfl, fun j e' hj => absurd hj (by omega), B.out.1, by have := B.out.2; simpa [labs] using this⟩
  case round =>
    obtain ⟨k, hk, rfl, R⟩ := hrel
    by_cases hlt : k < l.length
    · have hlt' : (k : Int) < (l.length : Int) := by omega
      obtain ⟨e, hek⟩ : ∃ e, l[k]? = some e := ⟨_, List.getElem?_eq_getElem hlt⟩
      obtain ⟨b, off, rfl, hW⟩ := H.out k e hek
      obtain ⟨d0, d1, d2, d3, d4, d5, d6, d7⟩ := hW.below R.2.1
      have E := Lib.hid hek
      obtain ⟨ea, eb, ec, ek, ex, ey, en, ed⟩ := e
      dsimp only at d0 d1 d2 d3 d4 d5 d6 d7
      have R2 := Lib.hid R
      clear R hW hek
      go_wp2_with fail
      have hbw := (Below.refl wr.heap.size wr).alloc (Nat.le_refl _) (.cells #[.int .i64 ea, .int .i64 eb, .int .i64 ec, .string ek, .int .i64 ex, .int .i64 ey, .bool en, .bool ed] 50)
      have hG := R2.out.2.2.below hbw
      have hB := below_then' R2.out.2.1 hbw
      clear d0 d1 d2 d3 d4 d5 d6 d7 hbw
      cases hbo : badOf n ⟨ea, eb, ec, ek, ex, ey, en, ed⟩ with
      | some r =>
        have hbad := badOf_some hbo
        dsimp only at hbad
        refine (bad21' hbad hG).mono ?_
        rintro e w' ⟨rfl, rfl⟩
        have Z := Lib.hid (And.intro hB (firstBad_at R2.out.1 E.out hbo))
        rcases bad_pos hbad with rfl | rfl
        all_goals
          clear hbad hbo hG hB
          go_wp2
          go_ret2
          exact ⟨Z.out.1, .inl ⟨_, Z.out.2, rfl⟩⟩
      | none =>
        obtain ⟨a', b', c', e1, e2, e3, ha, hb', hc1, hc2, hab⟩ := badOf_none hbo
        dsimp only at e1 e2 e3
        subst e1 e2 e3
        refine (radd_edge w.heap.size g n a' b' c' _ _ ha hb' hc1 hc2 hab (labs_take_lt R2.out.1 _ _) hG).mono ?_
        rintro e w' ⟨rfl, hg', hty⟩
        have Z := Lib.hid (show XRel w w' n g l (k + 1) from ⟨fun j e' hj he => by
            by_cases hjk : j < k
            · exact R2.out.1 j e' hjk he
            · obtain rfl : j = k := by omega
              rw [E.out] at he
              injection he with he
              rw [← he]; exact hbo, hB.trans (hty.below hB.size),
          by rw [labs_take E.out rfl rfl rfl]; exact hg'⟩)
        clear hbo hG hB hg' hty
        go_wp2
        go_roundw
        case rel => exact ⟨k + 1, by omega, by go_num, Z.out⟩
        case measure => simp [intOf]; omega
    · obtain rfl : k = l.length := by omega
      have S := Lib.hid R
      clear R
      go_wp2
      go_ret2
      exact ⟨S.out.2.1, .inr ⟨_, firstBad_none S.out.1, rfl, by have := S.out.2.2; rwa [List.take_length] at this, by have := labs_take_lt S.out.1; rwa [List.take_length] at this⟩⟩
end Go.Proofs.YtcfbcfcoigifiaaDoor
