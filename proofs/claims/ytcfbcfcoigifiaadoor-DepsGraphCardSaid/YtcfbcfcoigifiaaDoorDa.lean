/- Edges of dependencies put into one graph, till one is refused. -/
import Derived.Test.YtcfbcfcoigifiaaDoorY
set_option linter.unusedVariables false
set_option linter.unusedSimpArgs false
namespace Go.Proofs.YtcfbcfcoigifiaaDoor
open Go.RowKit

/-- What a dependency holds. -/
structure WhyV where
  a : Int
  b : Int
  c : Int
  key : ByteArray
  x : Int
  y : Int
  isNil : Bool
  cond : Bool
def WhyCells (w : World) (b o : Nat) (e : WhyV) : Prop :=
  w.cell? ⟨b, o, none⟩ = some (.int .i64 e.a) ∧ w.cell? ⟨b, o + 1, none⟩ = some (.int .i64 e.b) ∧ w.cell? ⟨b, o + 2, none⟩ = some (.int .i64 e.c) ∧ w.cell? ⟨b, o + 3, none⟩ = some (.string e.key) ∧
  w.cell? ⟨b, o + 4, none⟩ = some (.int .i64 e.x) ∧ w.cell? ⟨b, o + 5, none⟩ = some (.int .i64 e.y) ∧ w.cell? ⟨b, o + 6, none⟩ = some (.bool e.isNil) ∧ w.cell? ⟨b, o + 7, none⟩ = some (.bool e.cond)
def WhyAt (w : World) (A : Option Addr) (l : List WhyV) : Prop := ∀ k e, l[k]? = some e → ∃ b off, A = some ⟨b, off, none⟩ ∧ WhyCells w b (off + k * 8) e
theorem WhyCells.below {w w' : World} {b o : Nat} {e : WhyV} (h : WhyCells w b o e) (hb : Below w.heap.size w w') : WhyCells w' b o e := by
  obtain ⟨h0, h1, h2, h3, h4, h5, h6, h7⟩ := h
  exact ⟨old_cell hb h0, old_cell hb h1, old_cell hb h2, old_cell hb h3, old_cell hb h4, old_cell hb h5, old_cell hb h6, old_cell hb h7⟩
theorem WhyAt.below {w w' : World} {A : Option Addr} {l : List WhyV} (h : WhyAt w A l) (hb : Below w.heap.size w w') : WhyAt w' A l := fun k e he => by
  obtain ⟨b, off, h1, h2⟩ := h k e he
  exact ⟨b, off, h1, h2.below hb⟩

def badOf (n : Nat) (e : WhyV) : Option Int := if (e.a < 0 ∨ (n : Int) ≤ e.a) ∨ (e.b < 0 ∨ (n : Int) ≤ e.b) then some 60 else if e.c < 1 ∨ 15 < e.c ∨ e.a = e.b then some 1 else none
theorem badOf_some {n : Nat} {e : WhyV} {r : Int} (h : badOf n e = some r) : Bad n e.a e.b e.c r := by
  unfold badOf at h
  split at h
  · rename_i hc
    injection h with h
    subst h
    by_cases h1 : e.a < 0 ∨ (n : Int) ≤ e.a
    · exact .one _ _ _ h1
    · obtain ⟨a', ha⟩ := Int.eq_ofNat_of_zero_le (show 0 ≤ e.a by omega)
      rw [ha] at h1 ⊢
      exact .two a' _ _ (by omega) (by omega)
  · rename_i hn
    split at h
    · rename_i hc
      injection h with h
      subst h
      obtain ⟨a', ha⟩ := Int.eq_ofNat_of_zero_le (show 0 ≤ e.a by omega)
      obtain ⟨b', hb⟩ := Int.eq_ofNat_of_zero_le (show 0 ≤ e.b by omega)
      rw [ha, hb] at hc hn ⊢
      exact .three a' b' _ (by omega) (by omega) (by omega)
    · cases h
theorem badOf_none {n : Nat} {e : WhyV} (h : badOf n e = none) : ∃ a' b' c' : Nat, e.a = a' ∧ e.b = b' ∧ e.c = c' ∧ a' < n ∧ b' < n ∧ 1 ≤ c' ∧ c' ≤ 15 ∧ a' ≠ b' := by
  unfold badOf at h
  split at h
  · cases h
  · rename_i hn
    split at h
    · cases h
    · rename_i hc
      obtain ⟨a', ha⟩ := Int.eq_ofNat_of_zero_le (show 0 ≤ e.a by omega)
      obtain ⟨b', hb⟩ := Int.eq_ofNat_of_zero_le (show 0 ≤ e.b by omega)
      obtain ⟨c', hc'⟩ := Int.eq_ofNat_of_zero_le (show 0 ≤ e.c by omega)
      exact ⟨a', b', c', ha, hb, hc', by omega, by omega, by omega, by omega, by omega⟩
def firstBad (n : Nat) : List WhyV → Option Int
  | [] => none
  | e :: l => match badOf n e with
    | some r => some r
    | none => firstBad n l
theorem firstBad_at {n : Nat} : ∀ {l : List WhyV} {k : Nat} {e : WhyV} {r : Int}, (∀ (j : Nat) e', j < k → l[j]? = some e' → badOf n e' = none) → l[k]? = some e → badOf n e = some r → firstBad n l = some r
  | [], k, e, r, _, h, _ => by simp at h
  | x :: l, 0, e, r, _, h, hb => by
    simp at h
    subst h
    simp [firstBad, hb]
  | x :: l, k + 1, e, r, hp, h, hb => by
    have h0 := hp 0 x (by omega) rfl
    rw [firstBad, h0]
    exact firstBad_at (k := k) (fun j e' hj he => hp (j + 1) e' (by omega) (by simpa using he)) (by simpa using h) hb
theorem firstBad_none {n : Nat} : ∀ {l : List WhyV}, (∀ (j : Nat) e', j < l.length → l[j]? = some e' → badOf n e' = none) → firstBad n l = none
  | [], _ => rfl
  | x :: l, hp => by
    rw [firstBad, hp 0 x (by simp) rfl]
    exact firstBad_none fun j e' hj he => hp (j + 1) e' (by simp; omega) (by simpa using he)
/-- The labels when the edges of l are put. -/
def labs (l : List WhyV) : Nat → Nat → Nat := l.foldl (fun L e => orAt L e.a.toNat e.b.toNat e.c.toNat) (fun _ _ => 0)
theorem labs_take {l : List WhyV} {k : Nat} {e : WhyV} {a b c : Nat} (h : l[k]? = some e) (ha : e.a = a) (hb : e.b = b) (hc : e.c = c) : labs (l.take (k + 1)) = orAt (labs (l.take k)) a b c := by
  obtain ⟨hk, he⟩ := List.getElem?_eq_some_iff.1 h
  rw [List.take_succ_eq_append_getElem hk, he]
  unfold labs
  rw [List.foldl_append]
  simp [ha, hb, hc]
theorem labs_lt {n : Nat} : ∀ (l : List WhyV), (∀ (j : Nat) e', j < l.length → l[j]? = some e' → badOf n e' = none) → ∀ a b, labs l a b < 16 := by
  intro l hl
  have key : ∀ k, k ≤ l.length → ∀ a b, labs (l.take k) a b < 16 := by
    intro k
    induction k with
    | zero => intro _ a b; simp [labs]
    | succ k ih =>
      intro hk
      have he : l[k]? = some l[k] := List.getElem?_eq_getElem (by omega)
      obtain ⟨a', b', c', e1, e2, e3, _, _, _, h15, _⟩ := badOf_none (hl k _ (by omega) he)
      rw [labs_take he e1 e2 e3]
      exact orAt_lt _ _ _ _ (by omega) (ih (by omega))
  have := key l.length (Nat.le_refl _)
  rwa [List.take_length] at this

set_option maxHeartbeats 400000 in
theorem new_bad (n : Int) (w : World) (h : n < 0 ∨ 300 < n) : Calls Tryd.prog 18 #[.int .i64 n] w fun e w' => e = .returned (.tuple #[.pointer none, .int .i64 1]) ∧ w = w' := by
  by_cases h0 : n < 0
  · have d0 : decide (n < 0) = true := by simp [h0]
    clear h
    go_enter Tryd.func18, Tryd.ntmps18
    go_wp2
    go_ret2
    exact ⟨rfl, rfl⟩
  · have d0 : decide (n < 0) = false := by simp; omega
    have d1 : decide (300 < n) = true := by simp; omega
    clear h h0
    go_enter Tryd.func18, Tryd.ntmps18
    go_wp2
    go_ret2
    exact ⟨rfl, rfl⟩
set_option maxHeartbeats 400000 in
theorem rnew_bad (n : Int) (w : World) (h : n < 0 ∨ 300 < n) : Calls Tryd.prog 19 #[.int .i64 n] w fun e w' => e = .returned (.tuple #[.pointer none, .int .i64 1]) ∧ w = w' := by
  by_cases h0 : n < 0
  · have d0 : decide (n < 0) = true := by simp [h0]
    clear h
    go_enter Tryd.func19, Tryd.ntmps19
    go_wp2
    go_ret2
    exact ⟨rfl, rfl⟩
  · have d0 : decide (n < 0) = false := by simp; omega
    have d1 : decide (300 < n) = true := by simp; omega
    clear h h0
    go_enter Tryd.func19, Tryd.ntmps19
    go_wp2
    go_ret2
    exact ⟨rfl, rfl⟩
theorem bad20' {W : World} {base g n : Nat} {a b c r : Int} {M : Nat → Nat → Nat → Bool} (hbad : Bad n a b c r) (h : GrIs W base g n M) :
    Calls Tryd.prog 20 #[.pointer (some ⟨g, 0, none⟩), .int .i64 a, .int .i64 b, .int .i64 c] W fun e w' => e = .returned (.int .i64 r) ∧ W = w' := by
  obtain ⟨v, p, q, R⟩ := h
  have h0 := R.cn
  have h5 := R.cm
  cases hbad with
  | one a b c h => exact add_from g n a b c W h h0 h5
  | two a b c ha h => exact add_to g n a b c W ha h h0 h5
  | three a b c ha hb h => exact add_label g n a b c W ha hb h h0 h5
theorem bad21' {W : World} {base x n : Nat} {a b c r : Int} {L : Nat → Nat → Nat} (hbad : Bad n a b c r) (R : RefIs W base x n L) :
    Calls Tryd.prog 21 #[.pointer (some ⟨x, 0, none⟩), .int .i64 a, .int .i64 b, .int .i64 c] W fun e w' => e = .returned (.int .i64 r) ∧ W = w' := by
  cases hbad with
  | one a b c h => exact radd_from _ x n L a b c W h R
  | two a b c ha h => exact radd_to _ x n a L b c W ha h R
  | three a b c ha hb h => exact radd_label _ x n a b L c W ha hb h R
end Go.Proofs.YtcfbcfcoigifiaaDoor
