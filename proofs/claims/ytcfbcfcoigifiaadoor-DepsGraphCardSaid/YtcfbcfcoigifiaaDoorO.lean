/- comps.Order: the order of a graph's nodes, or that there is none. -/
import Derived.Test.YtcfbcfcoigifiaaDoorN
set_option linter.unusedVariables false
set_option linter.unusedSimpArgs false
namespace Go.Proofs.YtcfbcfcoigifiaaDoor
open Go.RowKit

/-- A row of counts of which those of the first t numbers of a list have turned by d. -/
def fd (f : Nat → Int) (d : Int) (L : List Nat) (t : Nat) : Nat → Int := fun m => f m + if (L.take t).contains m then d else 0
theorem fd_zero (f : Nat → Int) (d : Int) (L : List Nat) : fd f d L 0 = f := by funext m; simp [fd]
theorem fd_step {f : Nat → Int} {d : Int} {L : List Nat} {t : Nat} (hd : L.Nodup) (ht : t < L.length) : upd (fd f d L t) (L.getD t 0) (fd f d L t (L.getD t 0) + d) = fd f d L (t + 1) := by
  have hx : L.getD t 0 = L[t] := by simp [List.getD_eq_getElem?_getD, List.getElem?_eq_getElem ht]
  have hno : (L.take t).contains L[t] = false := by
    rw [← Bool.not_eq_true, List.contains_iff_mem]
    intro h
    obtain ⟨i, hi, he⟩ := List.mem_iff_getElem.1 h
    have hi' : i < t := by rw [List.length_take] at hi; omega
    rw [List.getElem_take] at he
    exact (List.pairwise_iff_getElem.1 hd i t (by omega) ht hi') he
  have hc : ∀ m, (L.take t ++ [L[t]]).contains m = ((L.take t).contains m || (m == L[t])) := fun m => by
    simp only [List.contains_eq_any_beq, List.any_append, List.any_cons, List.any_nil, Bool.or_false]
  funext m
  rw [hx]
  unfold fd upd
  rw [List.take_succ_eq_append_getElem ht, hc]
  by_cases e : m = L[t]
  · subst e
    rw [if_pos rfl, hno]
    simp
  · rw [if_neg e]
    simp [e]
theorem mem_nodup (S : Nat → Bool) (n : Nat) : (mem S n).Nodup := List.Pairwise.filter _ List.nodup_range
theorem mem_contains (S : Nat → Bool) (n m : Nat) (h : m < n) : (mem S n).contains m = S m := by
  rw [Bool.eq_iff_iff, List.contains_iff_mem]
  simp [mem, h]
theorem mem_lt (S : Nat → Bool) (n t : Nat) (h : t < (mem S n).length) : (mem S n).getD t 0 < n := by
  have hx : (mem S n).getD t 0 = (mem S n)[t] := by simp [List.getD_eq_getElem?_getD, List.getElem?_eq_getElem h]
  rw [hx]
  have := List.getElem_mem h
  simp only [mem, List.mem_filter, List.mem_range] at this
  exact this.1
theorem fd_end (f : Nat → Int) (d : Int) (S : Nat → Bool) (n m : Nat) (h : m < n) : fd f d (mem S n) (mem S n).length m = f m + if S m then d else 0 := by
  unfold fd
  rw [List.take_length, mem_contains S n m h]
theorem cntTo_le (E : Nat → Nat → Bool) (l : List Nat) (i m : Nat) : cntTo E l i m ≤ i := by
  have := List.length_filter_le (fun a => !l.contains a && E a m) (List.range i)
  simpa [cntTo] using this
theorem fd_bound {f : Nat → Int} {d : Int} {L : List Nat} {t m : Nat} (h1 : -2 ≤ f m) (h2 : f m ≤ 1000) (hd : d = 1 ∨ d = -1) : -10 ≤ fd f d L t m ∧ fd f d L t m ≤ 2000 := by
  unfold fd
  split <;> omega

/-- The counts ahead, behind i nodes. -/
def cnt0 (E : Nat → Nat → Bool) (i : Nat) : Nat → Int := fun m => (cntTo E [] i m : Int)
theorem cnt0_succ (E : Nat → Nat → Bool) (n i m : Nat) (h : m < n) : fd (cnt0 E i) 1 (mem (E i) n) (mem (E i) n).length m = cnt0 E (i + 1) m := by
  rw [fd_end _ _ _ _ _ h]
  unfold cnt0
  rw [cntTo_succ]
  cases E i m <;> simp
theorem cnt0_ahead (E : Nat → Nat → Bool) (n : Nat) : Ahead E n [] (cnt0 E n) := fun m _ => by simp [cnt0]
theorem ahead_bound {E : Nat → Nat → Bool} {n m : Nat} {l : List Nat} {f : Nat → Int} (h : Ahead E n l f) (hm : m < n) : -1 ≤ f m ∧ f m ≤ n := by
  rw [h m hm]
  have := cntTo_le E l n m
  split <;> omega

/-- One round over a list of numbers of the call's own: the row of counts, the list. -/
structure Counting (w wr : World) (ab n : Nat) (f : Nat → Int) (d : Int) (B : Nat) (v : Value) (L : List Nat) (t : Nat) : Prop where
  below : Below w.heap.size w wr
  row : RowF wr ab n (fd f d L t)
  own : OwnInts wr B v L
  lt : ab < B
  ge : w.heap.size ≤ ab
theorem own_lt_set {w : World} {B : Nat} {v : Value} {L : List Nat} {a : Addr} (h : OwnInts w B v L) (ha : a.block < B) (u : Value) : OwnInts (w.setCell a u) B v L := ownsRow_setCell_below h ha u
theorem Counting.step {w wr : World} {ab n B t : Nat} {f : Nat → Int} {d : Int} {v : Value} {L : List Nat} (h : Counting w wr ab n f d B v L t) (hd : L.Nodup) (ht : t < L.length) :
    Counting w (wr.setCell ⟨ab, L.getD t 0, none⟩ (.int .i64 (fd f d L t (L.getD t 0) + d))) ab n f d B v L (t + 1) := by
  refine ⟨h.below.setCell h.ge _, ?_, own_lt_set h.own h.lt _, h.lt, h.ge⟩
  have := h.row.put (L.getD t 0) (fd f d L t (L.getD t 0) + d)
  rw [fd_step hd ht] at this
  exact this

theorem count_start {w wo w1 : World} {ab n : Nat} {f : Nat → Int} {d : Int} {v : Value} {L : List Nat} (h1 : Below w.heap.size w wo) (h2 : RowF wo ab n f) (h3 : Below wo.heap.size wo w1) (h4 : OwnInts w1 wo.heap.size v L) (h5 : w.heap.size ≤ ab) :
    Counting w w1 ab n f d wo.heap.size v L 0 :=
  ⟨below_then' h1 h3, by rw [fd_zero]; exact h2.below h3, h4, h2.lt, h5⟩
theorem count_end {w wr : World} {ab n B i t : Nat} {E : Nat → Nat → Bool} {v : Value} (h : Counting w wr ab n (cnt0 E i) 1 B v (mem (E i) n) t) (ht : t = (mem (E i) n).length) : Below w.heap.size w wr ∧ RowF wr ab n (cnt0 E (i + 1)) := by
  subst ht
  exact ⟨h.below, h.row.congr fun m hm => cnt0_succ E n i m hm⟩
theorem own_at {w : World} {base k c t : Nat} {O : Option Addr} {L : List Nat} (h : OwnInts w base (.slice O k c) L) (ht : t < L.length) : ∃ g, O = some ⟨g, 0, none⟩ ∧ w.cell? ⟨g, t, none⟩ = some (.int .i64 ((L.getD t 0 : Nat) : Int)) := by
  obtain ⟨A, c', hv, hc⟩ := own_cells h
  injection hv with h1 h2 h3
  subst h1
  exact hc t ht

/-- What the order's call comes to. -/
def OrderIn (E : Nat → Nat → Bool) (n : Nat) (w : World) (e : Ending) (w' : World) : Prop := Below w.heap.size w w' ∧
  match ord E n n [] with
  | none => e = .returned (.tuple #[.slice none 0 0, .bool false])
  | some l => ∃ v, e = .returned (.tuple #[v, .bool true]) ∧ OwnInts w' w.heap.size v l

/-- The order so far. -/
structure Ordering (w wr : World) (n : Nat) (E : Nat → Nat → Bool) (v : Value) (L : List Nat) (f : Nat → Int) : Prop where
  below : Below w.heap.size w wr
  row : RowF wr w.heap.size n f
  own : OwnInts wr (w.heap.size + 1) v L
  run : Run E n L
  ahead : Ahead E n L f
theorem order_start {w wo : World} {n : Nat} {E F : Nat → Nat → Bool} (hE : E = F) (h1 : Below w.heap.size w wo) (h2 : RowF wo w.heap.size n (cnt0 E n)) : Ordering w wo n E (.slice none 0 0) [] (cnt0 E n) :=
  ⟨h1, h2, World.ownsRow_nil _ _ _ _, Run.nil E n, cnt0_ahead E n⟩
theorem order_idx_none {w wr : World} {n : Nat} {E : Nat → Nat → Bool} {v : Value} {L : List Nat} {f : Nat → Int} (h : Ordering w wr n E v L f) (hx : nxt E n L = none) : idx f n 0 = -1 := by
  unfold idx
  rw [ahead_find h.ahead, hx]
theorem order_idx_some {w wr : World} {n x : Nat} {E : Nat → Nat → Bool} {v : Value} {L : List Nat} {f : Nat → Int} (h : Ordering w wr n E v L f) (hx : nxt E n L = some x) : idx f n 0 = (x : Int) := by
  unfold idx
  rw [ahead_find h.ahead, hx]
theorem order_none {w w' : World} {n : Nat} {E : Nat → Nat → Bool} {v : Value} {L : List Nat} {f : Nat → Int} (h : Ordering w w' n E v L f) (hl : L.length < n) (hx : nxt E n L = none) : OrderIn E n w (.returned (.tuple #[.slice none 0 0, .bool false])) w' := by
  refine ⟨h.below, ?_⟩
  rw [h.run.stop hl hx]
theorem order_done {w w' : World} {n : Nat} {E : Nat → Nat → Bool} {v : Value} {L : List Nat} {f : Nat → Int} (h : Ordering w w' n E v L f) (hl : L.length = n) : OrderIn E n w (.returned (.tuple #[v, .bool true])) w' := by
  refine ⟨h.below, ?_⟩
  rw [h.run.done hl]
  exact ⟨v, rfl, own_lower h.own (Nat.le_succ _)⟩
/-- The node is struck: its place holds -1. -/
theorem order_strike {w wr : World} {n x : Nat} {E : Nat → Nat → Bool} {v : Value} {L : List Nat} {f : Nat → Int} (h : Ordering w wr n E v L f) :
    Below w.heap.size w (wr.setCell ⟨w.heap.size, x, none⟩ (.int .i64 (-1))) ∧ RowF (wr.setCell ⟨w.heap.size, x, none⟩ (.int .i64 (-1))) w.heap.size n (upd f x (-1)) ∧ OwnInts (wr.setCell ⟨w.heap.size, x, none⟩ (.int .i64 (-1))) (w.heap.size + 1) v L :=
  ⟨h.below.setCell (Nat.le_refl _) _, h.row.put x (-1), own_lt_set h.own (Nat.lt_succ_self _) _⟩
theorem own_below2 {w w' : World} {base : Nat} {v : Value} {L : List Nat} (h : OwnInts w base v L) (hb : Below w.heap.size w w') : OwnInts w' base v L := own_below' h hb
theorem upd_bound {f : Nat → Int} {n x m : Nat} (h : ∀ m, m < n → -1 ≤ f m ∧ f m ≤ n) (hm : m < n) : -2 ≤ upd f x (-1) m ∧ upd f x (-1) m ≤ n := by
  unfold upd
  have := h m hm
  split <;> omega
/-- Behind a round: the node is appended. -/
theorem order_step {w wr w2 : World} {n x B t : Nat} {E : Nat → Nat → Bool} {v v' v2 : Value} {L : List Nat} {f : Nat → Int} {X : Obj}
    (hr : Run E n L) (ha : Ahead E n L f) (hl : L.length < n) (hx : nxt E n L = some x)
    (hc : Counting w wr w.heap.size n (upd f x (-1)) (-1) B v (mem (E x) n) t) (ht : t = (mem (E x) n).length) (ho : OwnInts wr (w.heap.size + 1) v2 L)
    (h1 : w2.ownsRow (w.heap.size + 1) 3 1 v' (L.length + 1) (ints L ++ [.int .i64 (x : Int)])) (h2 : (wr.alloc X).grownBy w2 v2.ownBlock) :
    Ordering w w2 n E v' (L ++ [x]) (fun m => (if m = x then -1 else f m) - (if E x m then 1 else 0)) := by
  subst ht
  have hlt := hc.row.lt
  have hne : some w.heap.size ≠ v2.ownBlock := fun e => by
    have := (own_block ho e.symm).1
    omega
  refine ⟨(hc.below.alloc hc.below.size _).grown h2 (by have := hc.below.size; simp; omega) (fun k hk => by have := (own_block ho hk).1; omega), ?_, own_append h1, hr.next hl hx, ha.next hr hx fun m _ => rfl⟩
  refine (hc.row.keep ?_).congr fun m hm => ?_
  · rw [h2.block _ (by simp; omega) hne]
    exact Below.heap_alloc wr X _ hlt
  · rw [fd_end _ _ _ _ _ hm]
    unfold upd
    cases E x m <;> simp <;> split <;> omega

set_option maxHeartbeats 2000000 in
theorem order_in (base g n : Nat) (c : Int) (M : Nat → Nat → Nat → Bool) (w : World) (h : GrIs w base g n M) (hT : Tab w) :
    Calls Tryd.prog 7 #[.pointer (some ⟨g, 0, none⟩), .int .i64 c] w (OrderIn (fun a b => outTo M a c 4 b) n w) := by
  obtain ⟨i3, hi3, hy0, hy1, hy2⟩ := info_parts Tryd.info3
  have hn : n ≤ 300 := by obtain ⟨v, p, q, R⟩ := h; exact R.n_le
  have m1 : w.cell? ⟨g, 5, none⟩ = some (.bool true) := by obtain ⟨v, p, q, R⟩ := h; exact R.cm
  have m2 : w.cell? ⟨g, 0, none⟩ = some (.int .i64 n) := by obtain ⟨v, p, q, R⟩ := h; exact R.cn
  have A := Lib.hid (And.intro h (And.intro hT (And.intro (made_yes g w m1) (nodes_is g n w m2))))
  clear h hT m1 m2
  obtain ⟨E, hE⟩ : ∃ E : Nat → Nat → Bool, E = fun a b => outTo M a c 4 b := ⟨_, rfl⟩
  rw [← hE]
  have HE := Lib.hid hE
  clear hE
  go_enter Tryd.func7, Tryd.ntmps7
  go_wp2_with fail
  refine A.out.2.2.1.mono ?_
  rintro e w' ⟨rfl, rfl⟩
  go_wp2_with fail
  refine A.out.2.2.2.mono ?_
  rintro e w' ⟨rfl, rfl⟩
  go_wp2_with (at_make; refine wpList_make_exact _ rfl _ _ 27 rfl 3 i3 (.int .i64 0) 1 Tryd.underlying27 hi3 hy0 hy1 _ _ _ _ n rfl rfl rfl rfl ?c1 ?c2 ?_)
  case c1 => rw [hy2]; omega
  case c2 => unfold maxLen; omega
  go_wp2_with fail
  go_loopw [22] (fun u wr => ∃ i : Nat, i ≤ n ∧ u = .int .i64 i ∧ Below w.heap.size w wr ∧ RowF wr w.heap.size n (cnt0 E i)) (fun u _ => n - (intOf u).toNat)
  case atStart => exact ⟨0, Nat.zero_le _, rfl, (Below.refl _ _).alloc (Nat.le_refl _) _, (RowF.made w n).congr fun m _ => rfl⟩
  case round =>
    obtain ⟨i, hi, rfl, hb, hR⟩ := hrel
    obtain ⟨wo, rfl⟩ : ∃ wo : World, wo = wr := ⟨_, rfl⟩
    by_cases hlt : i < n
    · have B := Lib.hid (And.intro hb hR)
      clear hb hR
      have hlt' : (i : Int) < (n : Int) := by omega
      go_wp2_with fail
      refine (out_in base g n i c M wo hlt (A.out.1.below B.out.1) (A.out.2.1.below B.out.1)).mono ?_
      rintro e w1 ⟨v, rfl, hb1, ho1⟩
      have hS : mem (outTo M i c 4) n = mem (E i) n := by rw [HE.out]
      rw [hS] at ho1
      obtain ⟨O, c1, hv, hcell⟩ := own_cells ho1
      have hlen := mem_length (E i) n
      obtain ⟨k, hk⟩ : ∃ k, k = (mem (E i) n).length := ⟨_, rfl⟩
      have C := Lib.hid (And.intro hb1 (And.intro ho1 hS))
      rw [← hk] at hv hlen
      have HK := Lib.hid hk
      clear hb1 ho1 hS hk
      subst hv
      go_wp2_with fail
      go_loopw [30] (fun u wr => ∃ t : Nat, t ≤ k ∧ u = .int .i64 t ∧ Counting w wr w.heap.size n (cnt0 E i) 1 wo.heap.size (.slice O k c1) (mem (E i) n) t) (fun u _ => k - (intOf u).toNat)
      case atStart => exact ⟨0, by omega, rfl, count_start B.out.1 B.out.2 C.out.1 C.out.2.1 (Nat.le_refl _)⟩
      case round =>
        obtain ⟨t, ht, rfl, R⟩ := hrel
        by_cases htk : t < k
        · have htL : t < (mem (E i) n).length := by rw [← HK.out]; exact htk
          have hx := mem_lt (E i) n t htL
          obtain ⟨gO, rfl, cO⟩ := own_at R.own htL
          have cy := R.row.cell _ hx
          have fy := R.row.free ((mem (E i) n).getD t 0)
          have R2 := R.step (mem_nodup _ _) htL
          have hbd := @fd_bound (cnt0 E i) 1 (mem (E i) n) t ((mem (E i) n).getD t 0) (by unfold cnt0; omega) (by have := cntTo_le E [] i ((mem (E i) n).getD t 0); unfold cnt0; omega) (.inl rfl)
          obtain ⟨x, hx'⟩ : ∃ x, x = (mem (E i) n).getD t 0 := ⟨_, rfl⟩
          rw [← hx'] at hx cO cy fy R2 hbd
          obtain ⟨y, hy'⟩ : ∃ y, y = fd (cnt0 E i) 1 (mem (E i) n) t x := ⟨_, rfl⟩
          rw [← hy'] at cy R2 hbd
          have D := Lib.hid R2
          clear R R2 hx' hy' htL
          have hxn : (x : Int) < (n : Int) := by omega
          have htk' : (t : Int) < (k : Int) := by omega
          go_wp2
          go_roundw
          case rel => exact ⟨t + 1, by omega, by go_num, D.out⟩
          case measure => simp [intOf]; omega
        · obtain rfl : t = k := by omega
          have D := Lib.hid (count_end R HK.out)
          clear R
          go_wp2
          go_roundw
          case rel => exact ⟨i + 1, by omega, by go_num, D.out.1, D.out.2⟩
          case measure => simp [intOf]; omega
    · obtain rfl : i = n := by omega
      have P := Lib.hid (order_start HE.out hb hR)
      clear hb hR
      go_wp2_with fail
      go_loopg [10] i (fun k lv wr => ∃ L f, i - L.length ≤ k ∧ Ordering w wr i E lv L f)
      case atStart => exact ⟨[], _, by simp, P.out⟩
      case round =>
        obtain ⟨L, f, hk, R⟩ := hrel
        obtain ⟨wo, rfl⟩ : ∃ wo : World, wo = wr := ⟨_, rfl⟩
        obtain ⟨A1, cA, rfl, _⟩ := own_cells R.own
        obtain ⟨k1, hk1⟩ : ∃ k1, k1 = L.length := ⟨_, rfl⟩
        have HK := Lib.hid hk1
        have R' := Lib.hid R
        rw [← hk1] at hk R' ⊢
        have hle : k1 ≤ i := by rw [hk1]; exact R.run.len
        clear R hk1
        by_cases hlt : k1 < i
        · have hlt' : (k1 : Int) < (i : Int) := by omega
          go_wp2_with fail
          refine (index_in w.heap.size i i f 0 wo R'.out.row (by omega)).mono ?_
          rintro e w' ⟨rfl, rfl⟩
          cases hx : nxt E i L with
          | none =>
            rw [order_idx_none R'.out hx]
            have Q := Lib.hid (order_none R'.out (by rw [← HK.out]; exact hlt) hx)
            clear hx
            go_wp2
            go_ret2
            exact Q.out
          | some x =>
            rw [order_idx_some R'.out hx]
            obtain ⟨x1, x2, x3⟩ := nxt_some hx
            have hx1 : (x : Int) < (i : Int) := by omega
            have hx0 : decide ((x : Int) < 0) = false := by simp
            have cx := R'.out.row.cell x x1
            have fx := R'.out.row.free x
            have Q := Lib.hid (And.intro hx (@order_strike w wo i x E _ L f R'.out))
            clear hx x2 x3
            go_wp2_with fail
            refine (out_in base g i x c M _ x1 (A.out.1.below Q.out.2.1) (A.out.2.1.below Q.out.2.1)).mono ?_
            rintro e w1 ⟨v, rfl, hb1, ho1⟩
            obtain ⟨wq, hwq⟩ : ∃ wq : World, wq = wo.setCell ⟨w.heap.size, x, none⟩ (.int .i64 (-1)) := ⟨_, rfl⟩
            rw [← hwq] at hb1 ho1 Q
            clear hwq
            have hS : mem (outTo M x c 4) i = mem (E x) i := by rw [HE.out]
            rw [hS] at ho1
            obtain ⟨O, c1, hv, hcell⟩ := own_cells ho1
            have hlen := mem_length (E x) i
            obtain ⟨k2, hk2⟩ : ∃ k2, k2 = (mem (E x) i).length := ⟨_, rfl⟩
            have C := Lib.hid (And.intro (count_start (d := -1) Q.out.2.1 Q.out.2.2.1 hb1 ho1 (Nat.le_refl _)) (own_below2 Q.out.2.2.2 hb1))
            rw [← hk2] at hv hlen
            have HK2 := Lib.hid hk2
            have hfb := fun m (hm : m < i) => ahead_bound R'.out.ahead hm
            have FB := Lib.hid hfb
            clear hb1 ho1 hS hk2 hfb
            subst hv
            go_wp2_with fail
            go_loopw [59] (fun u wr => ∃ t : Nat, t ≤ k2 ∧ u = .int .i64 t ∧ Counting w wr w.heap.size i (upd f x (-1)) (-1) wq.heap.size (.slice O k2 c1) (mem (E x) i) t ∧ OwnInts wr (w.heap.size + 1) (.slice A1 k1 cA) L) (fun u _ => k2 - (intOf u).toNat)
            case atStart => exact ⟨0, by omega, rfl, C.out.1, C.out.2⟩
            case round =>
              obtain ⟨t, ht, rfl, R, hoL⟩ := hrel
              by_cases htk : t < k2
              · have htL : t < (mem (E x) i).length := by rw [← HK2.out]; exact htk
                have hy := mem_lt (E x) i t htL
                obtain ⟨gO, rfl, cO⟩ := own_at R.own htL
                have cy := R.row.cell _ hy
                have fy := R.row.free ((mem (E x) i).getD t 0)
                have R2 := R.step (mem_nodup _ _) htL
                have hbd := @fd_bound (upd f x (-1)) (-1) (mem (E x) i) t ((mem (E x) i).getD t 0) (upd_bound FB.out hy).1 (by have := (upd_bound (x := x) FB.out hy).2; omega) (.inr rfl)
                obtain ⟨y, hy'⟩ : ∃ y, y = (mem (E x) i).getD t 0 := ⟨_, rfl⟩
                rw [← hy'] at hy cO cy fy R2 hbd
                obtain ⟨z, hz'⟩ : ∃ z, z = fd (upd f x (-1)) (-1) (mem (E x) i) t y := ⟨_, rfl⟩
                rw [← hz'] at cy R2 hbd
                have D := Lib.hid (And.intro R2 (own_lt_set hoL (a := ⟨w.heap.size, y, none⟩) (Nat.lt_succ_self _) (.int .i64 (z + -1))))
                clear R R2 hoL hy' hz' htL
                have hyn : (y : Int) < (i : Int) := by omega
                have htk' : (t : Int) < (k2 : Int) := by omega
                go_wp2
                go_roundw
                case rel => exact ⟨t + 1, by omega, by go_num, D.out.1, D.out.2⟩
                case measure => simp [intOf]; omega
              · obtain rfl : t = k2 := by omega
                have D := Lib.hid (And.intro R hoL)
                clear R
                have hbs := D.out.1.below.size
                have how : wr.ownsRow (w.heap.size + 1) 3 1 (.slice A1 k1 cA) k1 (ints L) := by have := hoL; unfold OwnInts at this; rw [← HK.out] at this; exact this
                have hszr : w.heap.size < wr.heap.size := D.out.1.row.lt
                clear hoL
                go_wp2_with (at_builtin; refine wpList_append_own _ rfl _ _ 27 rfl (w.heap.size + 1) 3 i3 (.int .i64 0) 1 8 Tryd.underlying27 hi3 hy0 hy1 hy2 rfl (by decide) _ _ _ rfl (how.alloc _) ⟨wr.heap.size, 0, none⟩ 1 1 [.int .i64 x] rfl rfl (cell_one_new _ _ _) (one_cell1 rfl) (by unfold maxLen; omega) (by omega) (by simp; omega) ?_)
                intro v' w2 hown' hgrow _
                have F := Lib.hid (order_step R'.out.run R'.out.ahead (by rw [← HK.out]; exact hlt) Q.out.1 D.out.1 HK2.out D.out.2 (by rw [← HK.out]; exact hown') hgrow)
                clear how hown' hgrow
                go_wp2
                go_roundg (i - (k1 + 1))
                case measure => omega
                case rel => exact ⟨L ++ [x], _, by rw [List.length_append, ← HK.out]; exact Nat.le_refl _, F.out⟩
        · have Q := Lib.hid (order_done R'.out (by rw [← HK.out]; omega))
          go_wp2
          go_ret2
          exact Q.out
end Go.Proofs.YtcfbcfcoigifiaaDoor
