/- Edges put into a graph. -/
import Derived.Test.YtcfbcfcoigifiaaDoorG
set_option linter.unusedVariables false
set_option linter.unusedSimpArgs false
namespace Go.Proofs.YtcfbcfcoigifiaaDoor
open Go.RowKit

set_option maxHeartbeats 400000 in
theorem has_yes (g n i : Nat) (w : World) (hi : i < n) (h0 : w.cell? ⟨g, 0, none⟩ = some (.int .i64 n)) :
    Calls Tryd.prog 28 #[.pointer (some ⟨g, 0, none⟩), .int .i64 i] w fun e w' => e = .returned (.bool true) ∧ w = w' := by
  have h1 : decide ((0 : Int) ≤ (i : Int)) = true := by simp
  have h2 : decide ((i : Int) < (n : Int)) = true := by simp; omega
  go_enter Tryd.func28, Tryd.ntmps28
  go_wp2
  go_ret
  exact ⟨rfl, rfl⟩

set_option maxHeartbeats 400000 in
theorem has_no (g n : Nat) (i : Int) (w : World) (hi : i < 0 ∨ (n : Int) ≤ i) (h0 : w.cell? ⟨g, 0, none⟩ = some (.int .i64 n)) :
    Calls Tryd.prog 28 #[.pointer (some ⟨g, 0, none⟩), .int .i64 i] w fun e w' => e = .returned (.bool false) ∧ w = w' := by
  by_cases hneg : i < 0
  · have h1 : decide ((0 : Int) ≤ i) = false := by simp; omega
    clear hi
    go_enter Tryd.func28, Tryd.ntmps28
    go_wp2
    go_ret
    exact ⟨rfl, rfl⟩
  · have h1 : decide ((0 : Int) ≤ i) = true := by simp; omega
    have h2 : decide (i < (n : Int)) = false := by simp; omega
    clear hi hneg
    go_enter Tryd.func28, Tryd.ntmps28
    go_wp2
    go_ret
    exact ⟨rfl, rfl⟩

set_option maxHeartbeats 400000 in
theorem made_yes (g : Nat) (w : World) (h0 : w.cell? ⟨g, 5, none⟩ = some (.bool true)) :
    Calls Tryd.prog 22 #[.pointer (some ⟨g, 0, none⟩)] w fun e w' => e = .returned (.bool true) ∧ w = w' := by
  go_enter Tryd.func22, Tryd.ntmps22
  go_wp2
  go_ret
  exact ⟨rfl, rfl⟩

set_option maxHeartbeats 400000 in
theorem nodes_is (g n : Nat) (w : World) (h0 : w.cell? ⟨g, 0, none⟩ = some (.int .i64 n)) :
    Calls Tryd.prog 17 #[.pointer (some ⟨g, 0, none⟩)] w fun e w' => e = .returned (.int .i64 n) ∧ w = w' := by
  go_enter Tryd.func17, Tryd.ntmps17
  go_wp2
  go_ret
  exact ⟨rfl, rfl⟩

set_option maxHeartbeats 400000 in
theorem add_from (g n : Nat) (a b c : Int) (w : World) (ha : a < 0 ∨ (n : Int) ≤ a) (h0 : w.cell? ⟨g, 0, none⟩ = some (.int .i64 n)) (h5 : w.cell? ⟨g, 5, none⟩ = some (.bool true)) :
    Calls Tryd.prog 20 #[.pointer (some ⟨g, 0, none⟩), .int .i64 a, .int .i64 b, .int .i64 c] w fun e w' => e = .returned (.int .i64 60) ∧ w = w' := by
  have A := Lib.hid (has_no g n a w ha h0)
  clear ha
  go_enter Tryd.func20, Tryd.ntmps20
  go_wp2_with fail
  refine A.out.mono ?_
  rintro e w' ⟨rfl, rfl⟩
  go_wp2
  go_ret
  exact ⟨rfl, rfl⟩

set_option maxHeartbeats 400000 in
theorem add_to (g n a : Nat) (b c : Int) (w : World) (ha : a < n) (hb : b < 0 ∨ (n : Int) ≤ b) (h0 : w.cell? ⟨g, 0, none⟩ = some (.int .i64 n)) (h5 : w.cell? ⟨g, 5, none⟩ = some (.bool true)) :
    Calls Tryd.prog 20 #[.pointer (some ⟨g, 0, none⟩), .int .i64 a, .int .i64 b, .int .i64 c] w fun e w' => e = .returned (.int .i64 60) ∧ w = w' := by
  have A := Lib.hid (And.intro (has_yes g n a w ha h0) (has_no g n b w hb h0))
  clear ha hb
  go_enter Tryd.func20, Tryd.ntmps20
  go_wp2_with fail
  refine A.out.1.mono ?_
  rintro e w' ⟨rfl, rfl⟩
  go_wp2_with fail
  refine A.out.2.mono ?_
  rintro e w' ⟨rfl, rfl⟩
  go_wp2
  go_ret
  exact ⟨rfl, rfl⟩

set_option maxHeartbeats 400000 in
theorem add_label (g n a b : Nat) (c : Int) (w : World) (ha : a < n) (hb : b < n) (hc : c < 1 ∨ 15 < c ∨ a = b) (h0 : w.cell? ⟨g, 0, none⟩ = some (.int .i64 n)) (h5 : w.cell? ⟨g, 5, none⟩ = some (.bool true)) :
    Calls Tryd.prog 20 #[.pointer (some ⟨g, 0, none⟩), .int .i64 a, .int .i64 b, .int .i64 c] w fun e w' => e = .returned (.int .i64 1) ∧ w = w' := by
  have A := Lib.hid (And.intro (has_yes g n a w ha h0) (has_yes g n b w hb h0))
  clear ha hb
  by_cases h1 : c < 1
  · have d1 : decide (c < 1) = true := by simpa using h1
    clear hc
    go_enter Tryd.func20, Tryd.ntmps20
    go_wp2_with fail
    refine A.out.1.mono ?_
    rintro e w' ⟨rfl, rfl⟩
    go_wp2_with fail
    refine A.out.2.mono ?_
    rintro e w' ⟨rfl, rfl⟩
    go_wp2
    go_ret
    exact ⟨rfl, rfl⟩
  · have d1 : decide (c < 1) = false := by simpa using h1
    by_cases h2 : 15 < c
    · have d2 : decide (15 < c) = true := by simpa using h2
      clear hc
      go_enter Tryd.func20, Tryd.ntmps20
      go_wp2_with fail
      refine A.out.1.mono ?_
      rintro e w' ⟨rfl, rfl⟩
      go_wp2_with fail
      refine A.out.2.mono ?_
      rintro e w' ⟨rfl, rfl⟩
      go_wp2
      go_ret
      exact ⟨rfl, rfl⟩
    · have d2 : decide (15 < c) = false := by simpa using h2
      obtain rfl : a = b := by omega
      clear hc
      go_enter Tryd.func20, Tryd.ntmps20
      go_wp2_with fail
      refine A.out.1.mono ?_
      rintro e w' ⟨rfl, rfl⟩
      go_wp2_with fail
      refine A.out.2.mono ?_
      rintro e w' ⟨rfl, rfl⟩
      go_wp2
      go_ret
      exact ⟨rfl, rfl⟩

/-- The label i is among c. -/
def lab (c : Int) (i : Nat) : Bool := bits BinOp.and IntKind.i64 (c / 2 ^ i) 1 == 1

/-- Row i of a graph with nodes. -/
theorem GrRow.row {w : World} {base g n : Nat} {v : Nat → Value} {p q : Nat → Nat → Nat} {M : Nat → Nat → Nat → Bool} (h : GrRow w base g n (fun _ => n) v p q M) (i : Nat) (hi : i < 4) (hn : 0 < n) :
    ∃ rb cap, v i = .slice (some ⟨rb, 0, none⟩) n cap ∧ ∀ a, a < n → w.cell? ⟨rb, a, none⟩ = some (.pointer (some ⟨p i a, 0, none⟩)) := by
  have hr := h.rows i hi
  obtain ⟨rb, cap, hv, _, _⟩ := hr.form hn
  refine ⟨rb, cap, hv, fun a ha => ?_⟩
  rw [hv] at hr
  rw [hr.cellAt a (by omega), ptrs_at _ _ _ ha]

/-- One set turned. -/
theorem GrRow.turn {w w' : World} {base g n i a : Nat} {v : Nat → Value} {p q : Nat → Nat → Nat} {M M' : Nat → Nat → Nat → Bool} (h : GrRow w base g n (fun _ => n) v p q M) (hi : i < 4) (ha : a < n)
    (hS : SetIs w' (p i a) (q i a) n (M' i a)) (hg : w.grownBy w' (some (q i a))) (hM : ∀ t x, t < 4 → x < n → ¬ (t = i ∧ x = a) → M' t x = M t x) : GrRow w' base g n (fun _ => n) v p q M' := by
  obtain ⟨ws, hr, _⟩ := (h.sets i hi a ha).1
  have hk : ∀ (k : Nat) (c : Array Value) (T : Nat), w.heap[k]? = some (Obj.cells c T (0, 0)) → T ≠ 81 → w'.heap[k]? = w.heap[k]? := fun k c T hk hT => hg.block k (lt_of_some hk) fun e => by
    injection e with e
    subst e
    rw [hr.row] at hk
    injection hk with hk
    injection hk with _ hk
    exact hT hk.symm
  refine ⟨(hk _ _ _ h.hdr (by decide)).trans h.hdr, h.gb, h.n_le, fun t ht => own_keep (h.rows t ht) fun k _ _ ⟨cur, hc⟩ => hk _ _ _ hc (by decide), ?_, h.inj, h.apart⟩
  intro t ht x hx
  refine ⟨?_, (h.sets t ht x hx).2⟩
  by_cases e : t = i ∧ x = a
  · obtain ⟨rfl, rfl⟩ := e
    exact hS
  · rw [hM t x ht hx e]
    obtain ⟨us, hu, hb⟩ := (h.sets t ht x hx).1
    refine ⟨us, hu.keep (hk _ _ _ hu.hdr (by decide)) (hg.block _ (lt_of_some hu.row) fun e2 => ?_), hb⟩
    injection e2 with e2
    exact e (h.inj t x i a ht hx hi ha e2)

/-- The labels as they stand behind i rounds of Add. -/
def addTo (M : Nat → Nat → Nat → Bool) (a b : Nat) (c : Int) (i : Nat) : Nat → Nat → Nat → Bool := fun t x y => M t x y || (decide (t < i) && lab c t && decide (x = a) && decide (y = b))
theorem addTo_miss {M : Nat → Nat → Nat → Bool} {a b : Nat} {c : Int} {i : Nat} (h : lab c i = false) : addTo M a b c (i + 1) = addTo M a b c i := by
  funext t x y
  unfold addTo
  by_cases e : t = i
  · subst e; simp [h]
  · have : (t < i + 1) = (t < i) := by apply propext; omega
    simp only [this]
def AddRel (w wr : World) (base g n a b : Nat) (c : Int) (v : Nat → Value) (p q : Nat → Nat → Nat) (M : Nat → Nat → Nat → Bool) (i : Nat) : Prop := GrRow wr base g n (fun _ => n) v p q (addTo M a b c i) ∧ Ty base 81 w wr
theorem AddRel.miss {w wr : World} {base g n a b i : Nat} {c : Int} {v : Nat → Value} {p q : Nat → Nat → Nat} {M : Nat → Nat → Nat → Bool} (h : AddRel w wr base g n a b c v p q M i) (hl : lab c i = false) : AddRel w wr base g n a b c v p q M (i + 1) := by
  unfold AddRel at *
  rw [addTo_miss hl]
  exact h
theorem AddRel.hit {w wr w' : World} {base g n a b i : Nat} {c : Int} {v : Nat → Value} {p q : Nat → Nat → Nat} {M : Nat → Nat → Nat → Bool} (h : AddRel w wr base g n a b c v p q M i) (hl : lab c i = true) (hi : i < 4) (ha : a < n) (hb : b < n)
    (hS : SetIs w' (p i a) (q i a) n (fun j => addTo M a b c i i a j || decide (j = b))) (hg : wr.grownBy w' (some (q i a))) : AddRel w w' base g n a b c v p q M (i + 1) := by
  obtain ⟨h1, h2⟩ := h
  obtain ⟨ws, hr, _⟩ := (h1.sets i hi a ha).1
  refine ⟨h1.turn hi ha (hS.congr fun j hj => ?_) hg ?_, h2.trans (grown_ty hg hr.row (h1.sets i hi a ha).2)⟩
  · simp [addTo, hl]
  · intro t x ht hx hne
    funext y
    unfold addTo
    by_cases e : t = i
    · subst e
      have : ¬ x = a := fun e => hne ⟨rfl, e⟩
      simp [this]
    · have : (t < i + 1) = (t < i) := by apply propext; omega
      simp only [this]

def AddEdge (w : World) (base g n a b : Nat) (c : Int) (M : Nat → Nat → Nat → Bool) (e : Ending) (w' : World) : Prop := e = .returned (.int .i64 0) ∧ GrIs w' base g n (addTo M a b c 4) ∧ Ty base 81 w w'
theorem addTo_zero (M : Nat → Nat → Nat → Bool) (a b : Nat) (c : Int) : addTo M a b c 0 = M := by
  funext t x y
  simp [addTo]

set_option maxHeartbeats 1000000 in
theorem add_edge (base g n a b c : Nat) (M : Nat → Nat → Nat → Bool) (w : World) (ha : a < n) (hb : b < n) (hc1 : 1 ≤ c) (hc2 : c ≤ 15) (hab : a ≠ b) (h : GrIs w base g n M) :
    Calls Tryd.prog 20 #[.pointer (some ⟨g, 0, none⟩), .int .i64 a, .int .i64 b, .int .i64 c] w (AddEdge w base g n a b c M) := by
  obtain ⟨v, p, q, R⟩ := h
  have h0 := R.cn
  have h5 := R.cm
  have A := Lib.hid (And.intro (has_yes g n a w ha h0) (And.intro (has_yes g n b w hb h0) R))
  have d1 : decide ((c : Int) < 1) = false := by simp; omega
  have d2 : decide (15 < (c : Int)) = false := by simp; omega
  have d3 : ((a : Int) == (b : Int)) = false := by simp; omega
  have hab' := Lib.hid hab
  clear R hab
  go_enter Tryd.func20, Tryd.ntmps20
  go_wp2_with fail
  refine A.out.1.mono ?_
  rintro e w' ⟨rfl, rfl⟩
  go_wp2_with fail
  refine A.out.2.1.mono ?_
  rintro e w' ⟨rfl, rfl⟩
  go_wp2_with fail
  go_loopw [43] (fun u wr => ∃ i : Nat, i ≤ 4 ∧ u = .int .i64 i ∧ AddRel w wr base g n a b c v p q M i) (fun u _ => 4 - (intOf u).toNat)
  case atStart => exact ⟨0, by omega, rfl, by unfold AddRel; rw [addTo_zero]; exact ⟨A.out.2.2, Ty.refl _ _ _⟩⟩
  case round =>
    obtain ⟨i, hi, rfl, hR⟩ := hrel
    by_cases hlt : i < 4
    · have hd : (i : Int) < 4 := by omega
      have cv := hR.1.cv i hlt
      obtain ⟨rb, cap, hv, hcell⟩ := hR.1.row i hlt (by omega)
      rw [hv] at cv
      have ca := hcell a ha
      have hS := (hR.1.sets i hlt a ha).1
      have R' := Lib.hid hR
      have S' := Lib.hid hS
      clear hR hv hcell hS
      cases hl : lab c i with
      | false =>
        have R2 := Lib.hid (R'.out.miss hl)
        unfold lab at hl
        go_wp2
        go_roundw
        case rel => exact ⟨i + 1, by omega, by go_num, R2.out⟩
        case measure => simp [intOf]; omega
      | true =>
        have hl' := Lib.hid hl
        unfold lab at hl
        go_wp2_with fail
        refine (add_in (p i a) (q i a) n b _ wr S'.out hb).mono ?_
        rintro e w1 ⟨rfl, hS1, hg1⟩
        have R2 := Lib.hid (R'.out.hit hl'.out hlt ha hb hS1 hg1)
        clear hS1 hg1
        go_wp2
        go_roundw
        case rel => exact ⟨i + 1, by omega, by go_num, R2.out⟩
        case measure => simp [intOf]; omega
    · obtain rfl : i = 4 := by omega
      have R' := Lib.hid hR
      clear hR
      go_wp2
      go_ret
      exact ⟨rfl, ⟨v, p, q, R'.out.1⟩, R'.out.2⟩
end Go.Proofs.YtcfbcfcoigifiaaDoor
