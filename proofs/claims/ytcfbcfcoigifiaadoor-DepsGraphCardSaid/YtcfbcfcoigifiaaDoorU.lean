/- All edges of the document's graph, in their order. -/
import Derived.Test.YtcfbcfcoigifiaaDoorS
set_option linter.unusedVariables false
set_option linter.unusedSimpArgs false
namespace Go.Proofs.YtcfbcfcoigifiaaDoor
open Go.RowKit

theorem Tryd.info37 : (Tryd.prog.info? 37).map (fun i => (i.zero, i.size, i.bytes)) = some (some (.agg #[.int .i64 0, .int .i64 0, .int .i64 0]), 3, 24) := by kernel_rfl

/-- The edges out of a, those to nodes below b. -/
def outE (L : Nat → Nat → Nat) (a : Nat) : Nat → List (Nat × Nat × Nat)
  | 0 => []
  | b + 1 => outE L a b ++ if L a b = 0 then [] else [(a, b, L a b)]
def allE (L : Nat → Nat → Nat) (n : Nat) : Nat → List (Nat × Nat × Nat)
  | 0 => []
  | a + 1 => allE L n a ++ outE L a n
def triV (e : Nat × Nat × Nat) : List Value := [.int .i64 (e.1 : Nat), .int .i64 (e.2.1 : Nat), .int .i64 (e.2.2 : Nat)]
def trisV (es : List (Nat × Nat × Nat)) : List Value := es.flatMap triV
theorem trisV_append (a b : List (Nat × Nat × Nat)) : trisV (a ++ b) = trisV a ++ trisV b := by simp [trisV]
theorem trisV_length (es : List (Nat × Nat × Nat)) : (trisV es).length = es.length * 3 := by
  induction es with
  | nil => rfl
  | cons e es ih =>
    have : trisV (e :: es) = triV e ++ trisV es := rfl
    rw [this, List.length_append, ih]
    simp [triV]
    omega
theorem trisV_at (es : List (Nat × Nat × Nat)) : ∀ (k : Nat) (e : Nat × Nat × Nat), es[k]? = some e → (trisV es)[k * 3]? = some (.int .i64 (e.1 : Nat)) ∧ (trisV es)[k * 3 + 1]? = some (.int .i64 (e.2.1 : Nat)) ∧ (trisV es)[k * 3 + 2]? = some (.int .i64 (e.2.2 : Nat)) := by
  induction es with
  | nil => intro k e h; simp at h
  | cons x es ih =>
    intro k e h
    have hx : trisV (x :: es) = triV x ++ trisV es := rfl
    cases k with
    | zero =>
      simp at h
      subst h
      exact ⟨rfl, rfl, rfl⟩
    | succ k =>
      have := ih k e (by simpa using h)
      have hl : (triV x).length = 3 := rfl
      rw [hx]
      refine ⟨?_, ?_, ?_⟩
      · rw [List.getElem?_append_right (by omega), hl, show (k + 1) * 3 - 3 = k * 3 by omega]; exact this.1
      · rw [List.getElem?_append_right (by omega), hl, show (k + 1) * 3 + 1 - 3 = k * 3 + 1 by omega]; exact this.2.1
      · rw [List.getElem?_append_right (by omega), hl, show (k + 1) * 3 + 2 - 3 = k * 3 + 2 by omega]; exact this.2.2
theorem outE_length (L : Nat → Nat → Nat) (a : Nat) : ∀ b, (outE L a b).length ≤ b
  | 0 => Nat.zero_le _
  | b + 1 => by
    have := outE_length L a b
    unfold outE
    split <;> simp <;> omega
theorem allE_length (L : Nat → Nat → Nat) (n : Nat) : ∀ a, (allE L n a).length ≤ a * n
  | 0 => Nat.zero_le _
  | a + 1 => by
    have h1 := allE_length L n a
    have h2 := outE_length L a n
    unfold allE
    rw [List.length_append, Nat.succ_mul]
    omega
theorem outE_mem {L : Nat → Nat → Nat} {a : Nat} {e : Nat × Nat × Nat} : ∀ {b}, e ∈ outE L a b → e.1 = a ∧ e.2.1 < b ∧ e.2.2 = L a e.2.1
  | 0, h => by simp [outE] at h
  | b + 1, h => by
    unfold outE at h
    rcases List.mem_append.1 h with h | h
    · have := outE_mem h
      exact ⟨this.1, by omega, this.2.2⟩
    · split at h
      · simp at h
      · simp at h
        subst h
        exact ⟨rfl, by simp, rfl⟩
theorem allE_mem {L : Nat → Nat → Nat} {n : Nat} {e : Nat × Nat × Nat} : ∀ {a}, e ∈ allE L n a → e.1 < a ∧ e.2.1 < n ∧ e.2.2 = L e.1 e.2.1
  | 0, h => by simp [allE] at h
  | a + 1, h => by
    unfold allE at h
    rcases List.mem_append.1 h with h | h
    · have := allE_mem h
      exact ⟨by omega, this.2⟩
    · obtain ⟨h1, h2, h3⟩ := outE_mem h
      exact ⟨by omega, h2, by rw [h1]; exact h3⟩

/-- A row of edges of the call's own. -/
def OwnTris (w : World) (base : Nat) (v : Value) (es : List (Nat × Nat × Nat)) : Prop := w.ownsRow base 37 3 v es.length (trisV es)
theorem OwnTris.below {w w' : World} {base : Nat} {v : Value} {es : List (Nat × Nat × Nat)} (h : OwnTris w base v es) (hb : Below w.heap.size w w') : OwnTris w' base v es := own_below' h hb
theorem tris_append {w : World} {base : Nat} {v : Value} {es : List (Nat × Nat × Nat)} {e : Nat × Nat × Nat} (h : w.ownsRow base 37 3 v (es.length + 1) (trisV es ++ triV e)) : OwnTris w base v (es ++ [e]) := by
  unfold OwnTris
  rw [trisV_append, List.length_append]
  simpa [trisV] using h
theorem tris_cells {w : World} {base : Nat} {v : Value} {es : List (Nat × Nat × Nat)} (h : OwnTris w base v es) : ∃ A c, v = .slice A es.length c ∧ ∀ k e, es[k]? = some e → ∃ g, A = some ⟨g, 0, none⟩ ∧
    w.cell? ⟨g, k * 3, none⟩ = some (.int .i64 (e.1 : Nat)) ∧ w.cell? ⟨g, k * 3 + 1, none⟩ = some (.int .i64 (e.2.1 : Nat)) ∧ w.cell? ⟨g, k * 3 + 2, none⟩ = some (.int .i64 (e.2.2 : Nat)) := by
  rcases h.2 with ⟨rfl, h0⟩ | ⟨g, cap, cur, rfl, _⟩
  · refine ⟨none, 0, by rw [h0], fun k e he => ?_⟩
    have := (List.getElem?_eq_some_iff.1 he).1
    omega
  · refine ⟨_, cap, rfl, fun k e he => ⟨g, rfl, ?_⟩⟩
    have hk := (List.getElem?_eq_some_iff.1 he).1
    have h' : w.ownsRow base 37 3 (.slice (some ⟨g, 0, none⟩) es.length cap) es.length (trisV es) := h
    obtain ⟨h1, h2, h3⟩ := trisV_at es k e he
    exact ⟨by rw [h'.cellAt _ (by omega)]; exact h1, by rw [h'.cellAt _ (by omega)]; exact h2, by rw [h'.cellAt _ (by omega)]; exact h3⟩
theorem three_cells (a b c : Int) : ∀ u ∈ [Value.int .i64 a, .int .i64 b, .int .i64 c], u.oneCell' = true := by
  intro u hu
  simp at hu
  rcases hu with rfl | rfl | rfl <;> rfl
theorem news3 (w : World) (a b c : Value) (T : Nat) : ∀ j v, [a, b, c][j]? = some v → (w.alloc (.cells #[a, b, c] T)).cell? ((⟨w.heap.size, 0, none⟩ : Addr).add j) = some v :=
  World.news_of_block (w := w.alloc (.cells #[a, b, c] T)) (cs := #[a, b, c]) (heap_alloc_new w _)

def EdgesIn (w : World) (es : List (Nat × Nat × Nat)) (e : Ending) (w' : World) : Prop := ∃ v, e = .returned v ∧ Below w.heap.size w w' ∧ OwnTris w' w.heap.size v es
def EdgeRel (w wr : World) (v : Value) (es : List (Nat × Nat × Nat)) : Prop := Below w.heap.size w wr ∧ OwnTris wr w.heap.size v es
theorem EdgeRel.hit {w wr w1 : World} {v v' : Value} {es : List (Nat × Nat × Nat)} {e : Nat × Nat × Nat} {X : Obj} (h : EdgeRel w wr v es) (h1 : w1.ownsRow w.heap.size 37 3 v' (es.length + 1) (trisV es ++ triV e)) (h2 : (wr.alloc X).grownBy w1 v.ownBlock) : EdgeRel w w1 v' (es ++ [e]) :=
  ⟨(h.1.alloc h.1.size _).grown h2 (by have := h.1.size; simp; omega) (own_base' h.2), tris_append h1⟩

theorem old_cell {w wr : World} {p : Addr} {v : Value} (hb : Below w.heap.size w wr) (h : w.cell? p = some v) : wr.cell? p = some v := (hb.cell (World.block_lt_of_cell? w _ h)).trans h

set_option maxHeartbeats 2000000 in
theorem redges_in (base x n : Nat) (L : Nat → Nat → Nat) (w : World) (h : RefIs w base x n L) (hL : ∀ a b, L a b < 16) :
    Calls Tryd.prog 9 #[.pointer (some ⟨x, 0, none⟩)] w (EdgesIn w (allE L n n)) := by
  obtain ⟨i0, hi0, hz0, hz1, hz2⟩ := info_parts Tryd.info37
  have hn : n ≤ 300 := by obtain ⟨v, r, R⟩ := h; exact R.n_le
  obtain ⟨A, ca, h0⟩ := h.head
  have H := Lib.hid (And.intro h hL)
  clear h hL
  go_enter Tryd.func9, Tryd.ntmps9
  go_wp2_with fail
  go_loopw [3, 12] (fun v u wr => ∃ a : Nat, a ≤ n ∧ u = .int .i64 a ∧ EdgeRel w wr v (allE L n a)) (fun _ u _ => n - (intOf u).toNat)
  case atStart => exact ⟨0, Nat.zero_le _, rfl, Below.refl _ _, World.ownsRow_nil _ _ _ _⟩
  case round =>
    obtain ⟨a, ha, rfl, R⟩ := hrel
    obtain ⟨wo, rfl⟩ : ∃ wo : World, wo = wr := ⟨_, rfl⟩
    by_cases hlt : a < n
    · have hlt' : (a : Int) < (n : Int) := by omega
      obtain ⟨rb, cap, r, k0, k1, k2, _⟩ := H.out.1.cells (by omega)
      have g0 := old_cell R.1 k0
      have g1 := old_cell R.1 (k1 a hlt)
      have K2 := Lib.hid k2
      have R' := Lib.hid R
      clear R k1 k2 k0
      go_wp2_with fail
      go_loopw [3, 23] (fun v u wr => ∃ b : Nat, b ≤ n ∧ u = .int .i64 b ∧ EdgeRel w wr v (allE L n a ++ outE L a b)) (fun _ u _ => n - (intOf u).toNat)
      case atStart => exact ⟨0, Nat.zero_le _, rfl, by simpa [outE] using R'.out⟩
      case round =>
        obtain ⟨b, hb, rfl, R⟩ := hrel
        by_cases hbn : b < n
        · have hbn' : (b : Int) < (n : Int) := by omega
          have g2 := old_cell R.1 (K2.out a b hlt hbn).1
          have R2 := Lib.hid R
          obtain ⟨y, hy⟩ : ∃ y, y = L a b := ⟨_, rfl⟩
          rw [← hy] at g2
          have Y := Lib.hid hy
          clear R hy
          by_cases h0 : y = 0
          · have S := Lib.hid (show EdgeRel w wr u3 (allE L n a ++ outE L a (b + 1)) by unfold outE; rw [← Y.out, if_pos h0, List.append_nil]; exact R2.out)
            have d1 : ((y : Int) != 0) = false := by simp [h0]
            clear h0
            go_wp2
            go_roundw
            case rel => exact ⟨b + 1, by omega, by go_num, S.out⟩
            case measure => simp [intOf]; omega
          · have hes : allE L n a ++ outE L a (b + 1) = (allE L n a ++ outE L a b) ++ [(a, b, y)] := by
              rw [outE, ← Y.out, if_neg h0, List.append_assoc]
            have d1 : ((y : Int) != 0) = true := by simp [h0]
            have hlen : (allE L n a ++ outE L a b).length ≤ 100000 := by
              have q1 := allE_length L n a
              have q2 := outE_length L a b
              have q3 : a * n ≤ 300 * 300 := Nat.mul_le_mul (by omega) hn
              rw [List.length_append]
              omega
            obtain ⟨es, hes'⟩ : ∃ es, es = allE L n a ++ outE L a b := ⟨_, rfl⟩
            rw [← hes'] at hes hlen R2
            have HE := Lib.hid hes
            have hown : wr.ownsRow w.heap.size 37 3 u3 es.length (trisV es) := R2.out.2
            have hbs := R2.out.1.size
            clear h0 hes hes'
            go_wp2_with (at_builtin; refine wpList_append_own _ rfl _ _ 22 rfl w.heap.size 37 i0 (.agg #[.int .i64 0, .int .i64 0, .int .i64 0]) 3 24 Tryd.underlying22 hi0 hz0 hz1 hz2 rfl (by decide) _ _ _ rfl (hown.alloc _) ⟨wr.heap.size, 0, none⟩ 1 1 [.int .i64 (a : Nat), .int .i64 (b : Nat), .int .i64 (y : Nat)] rfl rfl (news3 _ _ _ _ _) (three_cells _ _ _) (by unfold maxLen; omega) (by omega) (by simp; omega) ?_)
            intro v' w1 hown' hgrow _
            have F := Lib.hid (EdgeRel.hit (e := (a, b, y)) R2.out hown' hgrow)
            clear hown hown' hgrow
            go_wp2
            go_roundw
            case rel => exact ⟨b + 1, by omega, by go_num, by rw [HE.out]; exact F.out⟩
            case measure => simp [intOf]; omega
        · obtain rfl : b = n := by omega
          have S := Lib.hid (show EdgeRel w wr u3 (allE L b (a + 1)) from R)
          clear R
          go_wp2
          go_roundw
          case rel => exact ⟨a + 1, by omega, by go_num, S.out⟩
          case measure => simp [intOf]; omega
    · obtain rfl : a = n := by omega
      have S := Lib.hid R
      clear R
      go_wp2
      go_ret
      exact ⟨_, rfl, S.out.1, S.out.2⟩
end Go.Proofs.YtcfbcfcoigifiaaDoor
