/- A slice of dependencies opened. -/
import Derived.Test.YtcfbcfcoigifiaaDoorT
import Derived.Test.YtcfbcfcoigifiaaDoorDa
set_option linter.unusedVariables false
set_option linter.unusedSimpArgs false
namespace Go.Proofs.YtcfbcfcoigifiaaDoor
open Go.ChangeShapes Go.WideShapes Go.ChangeAt Go.RowKit

theorem cells42 : Tryd.prog.cellsOf 50 = 8 := by kernel_rfl
theorem cells9 : Tryd.prog.cellsOf 9 = 1 := by kernel_rfl
theorem cells4 : Tryd.prog.cellsOf 4 = 1 := by kernel_rfl
theorem why_one {H : Type} {enc : TypeId × Value → H} {W : World} {n : Nat} {cs : List Value} {x : DataW H × List MemPlace} (h : DataW.trod enc Tryd.prog W 0 (fun _ => true) true n 50 cs = some x) :
    ∃ e : WhyV, cs = [.int .i64 e.a, .int .i64 e.b, .int .i64 e.c, .string e.key, .int .i64 e.x, .int .i64 e.y, .bool e.isNil, .bool e.cond] := by
  obtain ⟨xs, m, _, rfl, hl, hlen, hf⟩ := DataW.trod_struct Tryd.underlying50 h
  rw [cells42] at hl
  obtain ⟨c0, c1, c2, c3, c4, c5, c6, c7, rfl⟩ : ∃ c0 c1 c2 c3 c4 c5 c6 c7, cs = [c0, c1, c2, c3, c4, c5, c6, c7] := by
    match cs, hl with
    | [c0, c1, c2, c3, c4, c5, c6, c7], _ => exact ⟨c0, c1, c2, c3, c4, c5, c6, c7, rfl⟩
  have hlen' : xs.length = 8 := by simpa using hlen
  obtain ⟨y0, y1, y2, y3, y4, y5, y6, y7, rfl⟩ : ∃ y0 y1 y2 y3 y4 y5 y6 y7, xs = [y0, y1, y2, y3, y4, y5, y6, y7] := by
    match xs, hlen' with
    | [y0, y1, y2, y3, y4, y5, y6, y7], _ => exact ⟨y0, y1, y2, y3, y4, y5, y6, y7, rfl⟩
  have t0 : DataW.trod enc Tryd.prog W 0 (fun _ => true) true m 3 [c0] = some y0 := by have := hf 0 _ rfl; simpa [cells3] using this
  have t1 : DataW.trod enc Tryd.prog W 0 (fun _ => true) true m 3 [c1] = some y1 := by have := hf 1 _ rfl; simpa [cells3] using this
  have t2 : DataW.trod enc Tryd.prog W 0 (fun _ => true) true m 3 [c2] = some y2 := by have := hf 2 _ rfl; simpa [cells3] using this
  have t3 : DataW.trod enc Tryd.prog W 0 (fun _ => true) true m 9 [c3] = some y3 := by have := hf 3 _ rfl; simpa [cells9] using this
  have t4 : DataW.trod enc Tryd.prog W 0 (fun _ => true) true m 3 [c4] = some y4 := by have := hf 4 _ rfl; simpa [cells3] using this
  have t5 : DataW.trod enc Tryd.prog W 0 (fun _ => true) true m 3 [c5] = some y5 := by have := hf 5 _ rfl; simpa [cells3] using this
  have t6 : DataW.trod enc Tryd.prog W 0 (fun _ => true) true m 4 [c6] = some y6 := by have := hf 6 _ rfl; simpa [cells4] using this
  have t7 : DataW.trod enc Tryd.prog W 0 (fun _ => true) true m 4 [c7] = some y7 := by have := hf 7 _ rfl; simpa [cells4] using this
  obtain ⟨v0, e0, _, _⟩ := DataW.trod_int Tryd.underlying3 t0
  obtain ⟨v1, e1, _, _⟩ := DataW.trod_int Tryd.underlying3 t1
  obtain ⟨v2, e2, _, _⟩ := DataW.trod_int Tryd.underlying3 t2
  obtain ⟨v3, e3, _, _⟩ := DataW.trod_string Tryd.underlying9 t3
  obtain ⟨v4, e4, _, _⟩ := DataW.trod_int Tryd.underlying3 t4
  obtain ⟨v5, e5, _, _⟩ := DataW.trod_int Tryd.underlying3 t5
  obtain ⟨v6, e6, _⟩ := DataW.trod_bool Tryd.underlying4 t6
  obtain ⟨v7, e7, _⟩ := DataW.trod_bool Tryd.underlying4 t7
  simp at e0 e1 e2 e3 e4 e5 e6 e7
  subst e0 e1 e2 e3 e4 e5 e6 e7
  exact ⟨⟨v0, v1, v2, v3, v4, v5, v6, v7⟩, rfl⟩

instance : Inhabited WhyV := ⟨⟨0, 0, 0, ⟨#[]⟩, 0, 0, false, false⟩⟩
/-- A slice of dependencies opened. -/
theorem whys_open {H : Type} {enc : TypeId × Value → H} {W : World} {A : Option Addr} {len cap fuel : Nat} {x : DataW H × List MemPlace} (h : DataW.trod enc Tryd.prog W 0 (fun _ => true) true fuel 42 [.slice A len cap] = some x) :
    ∃ l : List WhyV, l.length = len ∧ WhyAt W A l ∧ len ≤ maxLen := by
  rcases Deep.open_slice Tryd.underlying42 h with ⟨hcs, _⟩ | ⟨a, len', cap', m, n, D, Pl, hcs, _, hl, hm, hmm, _, hx⟩
  · simp at hcs
    obtain ⟨rfl, rfl, rfl⟩ := hcs
    exact ⟨[], rfl, fun k e h => by simp at h, by omega⟩
  · simp at hcs
    obtain ⟨rfl, rfl, rfl⟩ := hcs
    simp only [if_true] at hmm
    subst hmm
    rw [cells42] at hx
    have key : ∀ i, i < len → ∃ e : WhyV, W.cell? (a.add (i * 8)) = some (.int .i64 e.a) ∧ W.cell? (a.add (i * 8 + 1)) = some (.int .i64 e.b) ∧ W.cell? (a.add (i * 8 + 2)) = some (.int .i64 e.c) ∧ W.cell? (a.add (i * 8 + 3)) = some (.string e.key) ∧
        W.cell? (a.add (i * 8 + 4)) = some (.int .i64 e.x) ∧ W.cell? (a.add (i * 8 + 5)) = some (.int .i64 e.y) ∧ W.cell? (a.add (i * 8 + 6)) = some (.bool e.isNil) ∧ W.cell? (a.add (i * 8 + 7)) = some (.bool e.cond) := by
      intro i hi
      obtain ⟨cs, h1, h2⟩ := hx i (by omega)
      obtain ⟨_, hlen, hcell⟩ := World.cells?_some h1
      obtain ⟨e, rfl⟩ := why_one h2
      have g0 := hcell 0 (by omega)
      have g1 := hcell 1 (by omega)
      have g2 := hcell 2 (by omega)
      have g3 := hcell 3 (by omega)
      have g4 := hcell 4 (by omega)
      have g5 := hcell 5 (by omega)
      have g6 := hcell 6 (by omega)
      have g7 := hcell 7 (by omega)
      rw [Deep.add_add] at g0 g1 g2 g3 g4 g5 g6 g7
      exact ⟨e, by simpa using g0, by simpa using g1, by simpa using g2, by simpa using g3, by simpa using g4, by simpa using g5, by simpa using g6, by simpa using g7⟩
    obtain ⟨f, hf⟩ := Deep.choose_lt key
    refine ⟨(List.range len).map f, by simp, fun k e he => ?_, by omega⟩
    have hk : k < len := by
      have := (List.getElem?_eq_some_iff.1 he).1
      simpa using this
    obtain ⟨b, off, spot⟩ := a
    have hspot : spot = none := by
      have := (hf 0 (by omega)).1
      exact World.cell?_spot (by simpa [Addr.add] using this)
    subst hspot
    refine ⟨b, off, rfl, ?_⟩
    have he : f k = e := by simpa [List.getElem?_range hk] using he
    subst he
    have := hf k hk
    unfold WhyCells
    simpa [add_plain, Nat.add_assoc] using this
end Go.Proofs.YtcfbcfcoigifiaaDoor
