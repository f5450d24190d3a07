/- The document's order: the walk. -/
import Derived.Test.YtcfbcfcoigifiaaDoorP
set_option linter.unusedVariables false
set_option linter.unusedSimpArgs false
namespace Go.Proofs.YtcfbcfcoigifiaaDoor
open Go.RowKit

/-- The first number below t at which p holds; -1: there is none. -/
def fst1 (p : Nat → Bool) (t : Nat) : Int := match (List.range t).find? p with
  | some k => (k : Int)
  | none => -1
theorem fst1_zero (p : Nat → Bool) : fst1 p 0 = -1 := rfl
theorem fst1_bound (p : Nat → Bool) (t : Nat) : -1 ≤ fst1 p t ∧ fst1 p t < t ∨ fst1 p t = -1 := by
  unfold fst1
  split
  · rename_i k h
    have := List.mem_range.1 (List.mem_of_find?_eq_some h)
    omega
  · exact .inr rfl
theorem fst1_find {p : Nat → Bool} {t : Nat} : (fst1 p t < 0 ↔ (List.range t).find? p = none) ∧ ∀ k, (List.range t).find? p = some k → fst1 p t = (k : Int) := by
  unfold fst1
  cases (List.range t).find? p with
  | none => simp
  | some k => simp
theorem fst1_succ (p : Nat → Bool) (t : Nat) : fst1 p (t + 1) = if fst1 p t < 0 ∧ p t = true then (t : Int) else fst1 p t := by
  unfold fst1
  rw [List.range_succ, List.find?_append]
  cases h : (List.range t).find? p with
  | none => cases hp : p t <;> simp [hp]
  | some k =>
    have : ¬ ((k : Int) < 0) := by omega
    simp [this]
theorem fst1_skip {p : Nat → Bool} {t : Nat} (h : p t = false) : fst1 p (t + 1) = fst1 p t := by rw [fst1_succ, h]; simp
theorem fst1_stay {p : Nat → Bool} {t : Nat} (h : 0 ≤ fst1 p t) : fst1 p (t + 1) = fst1 p t := by rw [fst1_succ, if_neg (by omega)]
theorem fst1_hit {p : Nat → Bool} {t : Nat} (h : fst1 p t < 0) (hp : p t = true) : fst1 p (t + 1) = (t : Int) := by rw [fst1_succ, if_pos ⟨h, hp⟩]

def pickOf (L : Nat → Nat → Nat) (c : Int) (n : Nat) (l : List Nat) (k : Nat) : Bool := !l.contains k && freeAt L c n (fun m => l.contains m) k
theorem pick_nxt (L : Nat → Nat → Nat) (c : Int) (n : Nat) (l : List Nat) : (List.range n).find? (pickOf L c n l) = nxt (edge L c) n l := rfl

/-- The document's order so far. -/
structure ROrdering (w wr : World) (n : Nat) (E : Nat → Nat → Bool) (b : Nat) (v : Value) (l : List Nat) : Prop where
  below : Below w.heap.size w wr
  row : RowB wr b n (fun m => l.contains m)
  own : OwnInts wr (b + 1) v l
  run : Run E n l
  ge : w.heap.size ≤ b
theorem rorder_none {w w' : World} {n b : Nat} {E : Nat → Nat → Bool} {v : Value} {l : List Nat} (h : ROrdering w w' n E b v l) (hl : l.length < n) (hx : nxt E n l = none) : OrderIn E n w (.returned (.tuple #[.slice none 0 0, .bool false])) w' := by
  refine ⟨h.below, ?_⟩
  rw [h.run.stop hl hx]
theorem rorder_done {w w' : World} {n b : Nat} {E : Nat → Nat → Bool} {v : Value} {l : List Nat} (h : ROrdering w w' n E b v l) (hl : l.length = n) : OrderIn E n w (.returned (.tuple #[v, .bool true])) w' := by
  refine ⟨h.below, ?_⟩
  rw [h.run.done hl]
  exact ⟨v, rfl, own_lower h.own (by have := h.ge; omega)⟩
theorem rorder_step {w wr w2 : World} {n b x : Nat} {E : Nat → Nat → Bool} {v v' : Value} {l : List Nat} {X : Obj} (h : ROrdering w wr n E b v l) (hl : l.length < n) (hx : nxt E n l = some x)
    (h1 : w2.ownsRow (b + 1) 3 1 v' (l.length + 1) (ints l ++ [.int .i64 (x : Int)])) (h2 : ((wr.setCell ⟨b, x, none⟩ (.bool true)).alloc X).grownBy w2 v.ownBlock) : ROrdering w w2 n E b v' (l ++ [x]) := by
  have hlt := h.row.lt
  have hs : (wr.setCell ⟨b, x, none⟩ (.bool true)).heap.size = wr.heap.size := by simp [World.setCell]
  have hne : some b ≠ v.ownBlock := fun e => by
    have := (own_block h.own e.symm).1
    omega
  have hge := h.ge
  have hbs := h.below.size
  refine ⟨((h.below.setCell (p := ⟨b, x, none⟩) hge (.bool true)).alloc (by rw [hs]; omega) X).grown h2 (by simp [hs]; omega) (fun k hk => by have := (own_block h.own hk).1; omega), ?_, own_append h1, h.run.next hl hx, hge⟩
  have hr := h.row.put x true
  refine (hr.keep ?_).congr fun m hm => ?_
  · rw [h2.block b (by simp [hs]; omega) hne]
    exact Below.heap_alloc _ X b (by rw [hs]; exact hlt)
  · unfold upd
    have hc : (l ++ [x]).contains m = (l.contains m || (m == x)) := by
      simp only [List.contains_eq_any_beq, List.any_append, List.any_cons, List.any_nil, Bool.or_false]
    rw [hc]
    by_cases e : m = x
    · subst e; simp
    · simp [e]

theorem news1 (w : World) (a : Addr) (x u : Value) : ∀ j v, [u][j]? = some v → ((w.setCell a x).alloc (.cells #[u] 3)).cell? ((⟨w.heap.size, 0, none⟩ : Addr).add j) = some v := by
  have := World.news_of_block (w := (w.setCell a x).alloc (.cells #[u] 3)) (B := w.heap.size) (cs := #[u]) (t := 3) (fr := (0, 0)) (by
    have h := heap_alloc_new (w.setCell a x) (.cells #[u] 3)
    have hs : (w.setCell a x).heap.size = w.heap.size := by simp [World.setCell]
    rw [hs] at h
    exact h)
  exact this

set_option maxHeartbeats 2000000 in
theorem rorder_in (base x n : Nat) (c : Int) (L : Nat → Nat → Nat) (w : World) (h : RefIs w base x n L) :
    Calls Tryd.prog 10 #[.pointer (some ⟨x, 0, none⟩), .int .i64 c] w (OrderIn (edge L c) n w) := by
  obtain ⟨i3, hi3, hy0, hy1, hy2⟩ := info_parts Tryd.info3
  obtain ⟨i4, hi4, hz0, hz1, hz2⟩ := info_parts Tryd.info4
  have hn : n ≤ 300 := by obtain ⟨v, r, R⟩ := h; exact R.n_le
  obtain ⟨A0, c0, h0⟩ := h.head
  have hsz : x < w.heap.size := World.block_lt_of_cell? w ⟨x, 0, none⟩ h0
  have A := Lib.hid h
  clear h
  go_enter Tryd.func10, Tryd.ntmps10
  go_wp2_with (at_make; refine wpList_make_exact _ rfl _ _ 62 rfl 4 i4 (.bool false) 1 Tryd.underlying62 hi4 hz0 hz1 _ _ _ _ n rfl rfl rfl rfl ?c1 ?c2 ?_)
  case c1 => rw [hz2]; omega
  case c2 => unfold maxLen; omega
  have h0' : (w.alloc (.cells (madeCells #[.bool false] n) 4)).cell? ⟨x, 0, none⟩ = some (.slice A0 n c0) := ((Below.refl _ _).alloc (Nat.le_refl _) _ |>.cell (p := ⟨x, 0, none⟩) hsz).trans h0
  go_wp2_with fail
  go_loopw [7, 23] (fun lv u wr => ∃ l : List Nat, u = .int .i64 (l.length : Nat) ∧ ROrdering w wr n (edge L c) w.heap.size lv l) (fun _ u _ => n - (intOf u).toNat)
  case atStart => exact ⟨[], rfl, (Below.refl _ _).alloc (Nat.le_refl _) _, (RowB.made w n).congr fun m _ => rfl, World.ownsRow_nil _ _ _ _, Run.nil _ _, Nat.le_refl _⟩
  case round =>
    obtain ⟨l, rfl, R⟩ := hrel
    obtain ⟨wo, rfl⟩ : ∃ wo : World, wo = wr := ⟨_, rfl⟩
    obtain ⟨k1, hk1⟩ : ∃ k1, k1 = l.length := ⟨_, rfl⟩
    have HK := Lib.hid hk1
    have hle : k1 ≤ n := by rw [hk1]; exact R.run.len
    rw [← hk1]
    have cx := (R.below.cell (p := ⟨x, 0, none⟩) hsz).trans h0
    have R' := Lib.hid R
    clear R hk1
    by_cases hlt : k1 < n
    · have hlt' : (k1 : Int) < (n : Int) := by omega
      go_wp2_with fail
      go_loop [8, 30] (fun zv u => ∃ (t : Nat) (z : Int), t ≤ n ∧ u = .int .i64 t ∧ zv = .int .i64 z ∧ Hid (z = fst1 (pickOf L c n l) t)) (fun _ u => n - (intOf u).toNat)
      case atStart => exact ⟨0, -1, Nat.zero_le _, rfl, rfl, rfl⟩
      case round =>
        obtain ⟨t, z, ht, rfl, rfl, hz⟩ := hrel
        by_cases htn : t < n
        · have htn' : (t : Int) < (n : Int) := by omega
          have cd := R'.out.row.cell t htn
          cases hc : l.contains t with
          | true =>
            rw [hc] at cd
            have S := Lib.hid (show z = fst1 (pickOf L c n l) (t + 1) by rw [hz.out, fst1_skip]; unfold pickOf; rw [hc]; rfl)
            clear hc
            go_wp2
            go_round
            case rel => exact ⟨t + 1, z, by omega, by go_num, rfl, S⟩
            case measure => simp [intOf]; omega
          | false =>
            rw [hc] at cd
            by_cases hneg : z < 0
            · have d1 : decide (z < 0) = true := by simpa using hneg
              have C := Lib.hid hc
              clear hc
              go_wp2_with fail
              refine (rfree base x n w.heap.size n t L c (fun m => l.contains m) wo (A.out.below R'.out.below) R'.out.row htn hn).mono ?_
              rintro e w' ⟨rfl, rfl⟩
              cases hf : freeAt L c n (fun m => l.contains m) t with
              | true =>
                have S := Lib.hid (show (t : Int) = fst1 (pickOf L c n l) (t + 1) by rw [fst1_hit (by rw [← hz.out]; exact hneg)]; unfold pickOf; rw [C.out, hf]; rfl)
                clear hf
                go_wp2
                go_round
                case rel => exact ⟨t + 1, t, by omega, by go_num, rfl, S⟩
                case measure => simp [intOf]; omega
              | false =>
                have S := Lib.hid (show z = fst1 (pickOf L c n l) (t + 1) by rw [hz.out, fst1_skip]; unfold pickOf; rw [C.out, hf]; rfl)
                clear hf
                go_wp2
                go_round
                case rel => exact ⟨t + 1, z, by omega, by go_num, rfl, S⟩
                case measure => simp [intOf]; omega
            · have d1 : decide (z < 0) = false := by simpa using hneg
              have S := Lib.hid (show z = fst1 (pickOf L c n l) (t + 1) by rw [hz.out, fst1_stay]; rw [← hz.out]; omega)
              clear hc
              go_wp2
              go_round
              case rel => exact ⟨t + 1, z, by omega, by go_num, rfl, S⟩
              case measure => simp [intOf]; omega
        · obtain rfl : t = n := by omega
          have hp := pick_nxt L c t l
          cases hx : nxt (edge L c) t l with
          | none =>
            have hz1 : z = -1 := by rw [hz.out]; unfold fst1; rw [hp, hx]
            subst hz1
            have Q := Lib.hid (rorder_none R'.out (by rw [← HK.out]; exact hlt) hx)
            clear hx hp
            go_wp2
            go_ret2
            exact Q.out
          | some y =>
            have hz1 : z = (y : Int) := by rw [hz.out]; unfold fst1; rw [hp, hx]
            subst hz1
            obtain ⟨y1, _, _⟩ := nxt_some hx
            have hy1' : (y : Int) < (t : Int) := by omega
            have d1 : decide ((y : Int) < 0) = false := by simp
            have cy := R'.out.row.cell y y1
            have fy := R'.out.row.free y
            have Q := Lib.hid hx
            have how : (wo.setCell ⟨w.heap.size, y, none⟩ (.bool true)).ownsRow (w.heap.size + 1) 3 1 u7 k1 (ints l) := by
              have := own_lt_set R'.out.own (a := ⟨w.heap.size, y, none⟩) (Nat.lt_succ_self _) (.bool true)
              unfold OwnInts at this
              rw [← HK.out] at this
              exact this
            have hws : w.heap.size < wo.heap.size := R'.out.row.lt
            clear hx hp hz
            go_wp2_with (at_builtin; refine wpList_append_own _ rfl _ _ 27 rfl (w.heap.size + 1) 3 i3 (.int .i64 0) 1 8 Tryd.underlying27 hi3 hy0 hy1 hy2 rfl (by decide) _ _ _ rfl (how.alloc _) ⟨wo.heap.size, 0, none⟩ 1 1 [.int .i64 y] rfl rfl (news1 _ _ _ _) (one_cell1 rfl) (by unfold maxLen; omega) (by omega) (by simp; omega) ?_)
            intro v' w2 hown' hgrow _
            have F := Lib.hid (rorder_step R'.out (by rw [← HK.out]; exact hlt) Q.out (by rw [← HK.out]; exact hown') hgrow)
            clear how hown' hgrow
            go_wp2
            go_roundw
            case rel => exact ⟨l ++ [y], by rw [List.length_append, ← HK.out]; go_num, F.out⟩
            case measure => simp [intOf]; omega
    · obtain rfl : k1 = n := by omega
      have Q := Lib.hid (rorder_done R'.out HK.out.symm)
      go_wp2
      go_ret2
      exact Q.out

def CyclicIn (b : Bool) (w : World) (e : Ending) (w' : World) : Prop := e = .returned (.bool b) ∧ Below w.heap.size w w'
theorem order_parts {E : Nat → Nat → Bool} {n : Nat} {w w' : World} {e : Ending} (h : OrderIn E n w e w') : Below w.heap.size w w' ∧ ∃ v b, e = .returned (.tuple #[v, .bool b]) ∧ b = (ord E n n []).isSome ∧ (∀ l, ord E n n [] = some l → OwnInts w' w.heap.size v l) ∧ (ord E n n [] = none → v = .slice none 0 0) := by
  obtain ⟨h1, h2⟩ := h
  refine ⟨h1, ?_⟩
  cases ho : ord E n n [] with
  | none =>
    rw [ho] at h2
    exact ⟨_, _, h2, rfl, fun l hl => by simp at hl, fun _ => rfl⟩
  | some l =>
    rw [ho] at h2
    obtain ⟨v, rfl, hv⟩ := h2
    exact ⟨v, true, rfl, rfl, fun l' hl => by simp at hl; subst hl; exact hv, fun h => by simp at h⟩

set_option maxHeartbeats 400000 in
theorem cyclic_in (base g n : Nat) (c : Int) (M : Nat → Nat → Nat → Bool) (w : World) (h : GrIs w base g n M) (hT : Tab w) :
    Calls Tryd.prog 12 #[.pointer (some ⟨g, 0, none⟩), .int .i64 c] w (CyclicIn (!(ord (fun a b => outTo M a c 4 b) n n []).isSome) w) := by
  have A := Lib.hid (And.intro h (order_in base g n c M w h hT))
  clear h hT
  go_enter Tryd.func12, Tryd.ntmps12
  go_wp2_with fail
  refine A.out.2.mono ?_
  intro e w1 ho
  obtain ⟨hb, v, b, rfl, hbo, _⟩ := order_parts ho
  have m1 : w1.cell? ⟨g, 5, none⟩ = some (.bool true) := by obtain ⟨v, p, q, R⟩ := A.out.1.below hb; exact R.cm
  have B := Lib.hid (And.intro hb hbo)
  clear ho hb hbo
  go_wp2_with fail
  refine (made_yes g w1 m1).mono ?_
  rintro e w' ⟨rfl, rfl⟩
  go_wp2
  all_goals go_ret
  all_goals exact ⟨by rw [← B.out.2]; simp [*], B.out.1⟩
end Go.Proofs.YtcfbcfcoigifiaaDoor
