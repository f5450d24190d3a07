/- Rows of edges compared, of the same edges. -/
import Derived.Test.YtcfbcfcoigifiaaDoorX
set_option linter.unusedVariables false
set_option linter.unusedSimpArgs false
namespace Go.Proofs.YtcfbcfcoigifiaaDoor
open Go.RowKit

def TrisAt (w : World) (A : Option Addr) (es : List (Nat × Nat × Nat)) : Prop := ∀ k e, es[k]? = some e → ∃ g, A = some ⟨g, 0, none⟩ ∧
    w.cell? ⟨g, k * 3, none⟩ = some (.int .i64 (e.1 : Nat)) ∧ w.cell? ⟨g, k * 3 + 1, none⟩ = some (.int .i64 (e.2.1 : Nat)) ∧ w.cell? ⟨g, k * 3 + 2, none⟩ = some (.int .i64 (e.2.2 : Nat))
set_option maxHeartbeats 1000000 in
theorem equal_tris (A A' : Option Addr) (c c' : Nat) (es : List (Nat × Nat × Nat)) (w : World) (h : TrisAt w A es) (h' : TrisAt w A' es) (hln : es.length ≤ 100000) :
    Calls Tryd.prog 16 #[.slice A es.length c, .slice A' es.length c'] w (HasIn w true) := by
  have H := Lib.hid (And.intro h h')
  clear h h'
  have hne : (((es.length : Nat) : Int) != ((es.length : Nat) : Int)) = false := by simp
  go_enter Tryd.func16, Tryd.ntmps16
  go_wp2_with fail
  go_loopw [13] (fun u wr => ∃ t : Nat, t ≤ es.length ∧ u = .int .i64 t ∧ ∃ m, wr = w.drewN m) (fun u _ => es.length - (intOf u).toNat)
  case atStart => exact ⟨0, Nat.zero_le _, rfl, 0, rfl⟩
  case round =>
    obtain ⟨t, ht, rfl, m, rfl⟩ := hrel
    by_cases htl : t < es.length
    · obtain ⟨⟨a, b, y⟩, hek⟩ : ∃ e, es[t]? = some e := ⟨_, List.getElem?_eq_getElem htl⟩
      obtain ⟨g, rfl, e1, e2, e3⟩ := H.out.1 t _ hek
      obtain ⟨g', rfl, f1, f2, f3⟩ := H.out.2 t _ hek
      have htl' : (t : Int) < (es.length : Int) := by omega
      have q1 : (((a : Nat) : Int) == ((a : Nat) : Int)) = true := by simp
      clear hek
      go_wp2_with fail
      go_quiet (fail)
      go_wp2
      go_roundw
      case rel => exact ⟨t + 1, by omega, by go_num, _, rfl⟩
      case measure => simp [intOf]; omega
    · obtain rfl : t = es.length := by omega
      go_wp2
      go_ret
      exact ⟨rfl, m, rfl⟩
end Go.Proofs.YtcfbcfcoigifiaaDoor
