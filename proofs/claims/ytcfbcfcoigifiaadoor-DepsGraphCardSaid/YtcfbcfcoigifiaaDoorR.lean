/- A graph of the program drawn beside one of the document. -/
import Derived.Test.YtcfbcfcoigifiaaDoorQ
import Derived.Deep.RegionHeld3
set_option linter.unusedVariables false
set_option linter.unusedSimpArgs false
namespace Go.Proofs.YtcfbcfcoigifiaaDoor
open Go.RowKit

/-- Edges that are read: each a triple of whole numbers. -/
def EdgesAt (w : World) (A : Option Addr) (es : List (Int × Int × Int)) : Prop := 0 < es.length → ∃ b off, A = some ⟨b, off, none⟩ ∧ ∀ k e, es[k]? = some e →
  w.cell? ⟨b, off + k * 3, none⟩ = some (.int .i64 e.1) ∧ w.cell? ⟨b, off + k * 3 + 1, none⟩ = some (.int .i64 e.2.1) ∧ w.cell? ⟨b, off + k * 3 + 2, none⟩ = some (.int .i64 e.2.2)

/-- Both graphs: their labels, apart. -/
def Two (w W : World) (g x n : Nat) (L L' : Nat → Nat → Nat) : Prop := Below w.heap.size w W ∧ GrIs W w.heap.size g n (bitsOf L) ∧ RefIs W w.heap.size x n L' ∧ (∀ a b, L a b < 16) ∧ (∀ a b, L' a b < 16)
theorem Two.below {w W W' : World} {g x n : Nat} {L L' : Nat → Nat → Nat} (h : Two w W g x n L L') (hb : Below W.heap.size W W') : Two w W' g x n L L' :=
  ⟨below_then' h.1 hb, h.2.1.below hb, h.2.2.1.below hb, h.2.2.2.1, h.2.2.2.2⟩
/-- The block of an edge. -/
def Blk (W : World) (k : Nat) (a b c : Int) : Prop := W.heap[k]? = some (.cells #[.int .i64 a, .int .i64 b, .int .i64 c] 37 (0, 0))
theorem Blk.c0 {W : World} {k : Nat} {a b c : Int} (h : Blk W k a b c) : W.cell? ⟨k, 0, none⟩ = some (.int .i64 a) := by rw [cell_of_row W k 0 _ _ _ h]; rfl
theorem Blk.c1 {W : World} {k : Nat} {a b c : Int} (h : Blk W k a b c) : W.cell? ⟨k, 1, none⟩ = some (.int .i64 b) := by rw [cell_of_row W k 1 _ _ _ h]; rfl
theorem Blk.c2 {W : World} {k : Nat} {a b c : Int} (h : Blk W k a b c) : W.cell? ⟨k, 2, none⟩ = some (.int .i64 c) := by rw [cell_of_row W k 2 _ _ _ h]; rfl
def Did (w W : World) (g x n : Nat) (L L' : Nat → Nat → Nat) (r : Int) (e : Ending) (w' : World) : Prop := e = .returned (.int .i64 r) ∧ Two w w' g x n L L' ∧ ∀ k a b c, Blk W k a b c → Blk w' k a b c
theorem two20 {w W : World} {g x n a b c : Nat} {L L' : Nat → Nat → Nat} (ha : a < n) (hb : b < n) (hc1 : 1 ≤ c) (hc2 : c ≤ 15) (hab : a ≠ b) (h : Two w W g x n L L') :
    Calls Tryd.prog 20 #[.pointer (some ⟨g, 0, none⟩), .int .i64 a, .int .i64 b, .int .i64 c] W (Did w W g x n (orAt L a b c) L' 0) :=
  (add_edge w.heap.size g n a b c (bitsOf L) W ha hb hc1 hc2 hab h.2.1).mono fun e w' ⟨h1, h2, h3⟩ =>
    ⟨h1, ⟨h.1.trans (h3.below h.1.size), h2.congr fun t p q ht _ _ => add_bits L a b c (by omega) t p q ht, h.2.2.1.ty h3 (by decide), orAt_lt L a b c (by omega) h.2.2.2.1, h.2.2.2.2⟩, fun k a b c hk => h3.keep hk (by decide)⟩
theorem two21 {w W : World} {g x n a b c : Nat} {L L' : Nat → Nat → Nat} (ha : a < n) (hb : b < n) (hc1 : 1 ≤ c) (hc2 : c ≤ 15) (hab : a ≠ b) (h : Two w W g x n L L') :
    Calls Tryd.prog 21 #[.pointer (some ⟨x, 0, none⟩), .int .i64 a, .int .i64 b, .int .i64 c] W (Did w W g x n L (orAt L' a b c) 0) :=
  (radd_edge w.heap.size x n a b c L' W ha hb hc1 hc2 hab (h.2.2.2.2 a b) h.2.2.1).mono fun e w' ⟨h1, h2, h3⟩ =>
    ⟨h1, ⟨h.1.trans (h3.below h.1.size), h.2.1.ty h3 (by decide), h2, h.2.2.2.1, orAt_lt L' a b c (by omega) h.2.2.2.2⟩, fun k a b c hk => h3.keep hk (by decide)⟩
/-- An edge that is refused, and the number that both tell. -/
inductive Bad (n : Nat) : Int → Int → Int → Int → Prop where
  | one (a b c : Int) (h : a < 0 ∨ (n : Int) ≤ a) : Bad n a b c 60
  | two (a : Nat) (b c : Int) (ha : a < n) (h : b < 0 ∨ (n : Int) ≤ b) : Bad n (a : Int) b c 60
  | three (a b : Nat) (c : Int) (ha : a < n) (hb : b < n) (h : c < 1 ∨ 15 < c ∨ a = b) : Bad n (a : Int) (b : Int) c 1
theorem bad20 {w W : World} {g x n : Nat} {a b c r : Int} {L L' : Nat → Nat → Nat} (hbad : Bad n a b c r) (h : Two w W g x n L L') :
    Calls Tryd.prog 20 #[.pointer (some ⟨g, 0, none⟩), .int .i64 a, .int .i64 b, .int .i64 c] W fun e w' => e = .returned (.int .i64 r) ∧ w' = W := by
  obtain ⟨v, p, q, R⟩ := h.2.1
  have h0 := R.cn
  have h5 := R.cm
  have sw : ∀ (e : Ending) (w' : World) (r : Int), (e = .returned (.int .i64 r) ∧ W = w') → (e = .returned (.int .i64 r) ∧ w' = W) := fun e w' r ⟨h1, h2⟩ => ⟨h1, h2.symm⟩
  cases hbad with
  | one a b c h => exact (add_from g n a b c W h h0 h5).mono fun e w' => sw e w' _
  | two a b c ha h => exact (add_to g n a b c W ha h h0 h5).mono fun e w' => sw e w' _
  | three a b c ha hb h => exact (add_label g n a b c W ha hb h h0 h5).mono fun e w' => sw e w' _
theorem bad21 {w W : World} {g x n : Nat} {a b c r : Int} {L L' : Nat → Nat → Nat} (hbad : Bad n a b c r) (h : Two w W g x n L L') :
    Calls Tryd.prog 21 #[.pointer (some ⟨x, 0, none⟩), .int .i64 a, .int .i64 b, .int .i64 c] W fun e w' => e = .returned (.int .i64 r) ∧ w' = W := by
  have R := h.2.2.1
  have sw : ∀ (e : Ending) (w' : World) (r : Int), (e = .returned (.int .i64 r) ∧ W = w') → (e = .returned (.int .i64 r) ∧ w' = W) := fun e w' r ⟨h1, h2⟩ => ⟨h1, h2.symm⟩
  cases hbad with
  | one a b c h => exact (radd_from _ x n L' a b c W h R).mono fun e w' => sw e w' _
  | two a b c ha h => exact (radd_to _ x n a L' b c W ha h R).mono fun e w' => sw e w' _
  | three a b c ha hb h => exact (radd_label _ x n a b L' c W ha hb h R).mono fun e w' => sw e w' _
theorem good_or_bad (n : Nat) (a b c : Int) : (∃ r, Bad n a b c r) ∨ ∃ a' b' c' : Nat, a = a' ∧ b = b' ∧ c = c' ∧ a' < n ∧ b' < n ∧ 1 ≤ c' ∧ c' ≤ 15 ∧ a' ≠ b' := by
  by_cases h1 : a < 0 ∨ (n : Int) ≤ a
  · exact .inl ⟨_, .one a b c h1⟩
  · obtain ⟨a', rfl⟩ := Int.eq_ofNat_of_zero_le (show 0 ≤ a by omega)
    by_cases h2 : b < 0 ∨ (n : Int) ≤ b
    · exact .inl ⟨_, .two a' b c (by omega) h2⟩
    · obtain ⟨b', rfl⟩ := Int.eq_ofNat_of_zero_le (show 0 ≤ b by omega)
      by_cases h3 : c < 1 ∨ 15 < c ∨ a' = b'
      · exact .inl ⟨_, .three a' b' c (by omega) (by omega) h3⟩
      · obtain ⟨c', rfl⟩ := Int.eq_ofNat_of_zero_le (show 0 ≤ c by omega)
        exact .inr ⟨a', b', c', rfl, rfl, rfl, by omega, by omega, by omega, by omega, by omega⟩

def sizeOf60 (n : Int) : Nat := ((n % 18446744073709551616) % 60).toNat
def Drawn (n : Nat) (w : World) (e : Ending) (w' : World) : Prop := ∃ g x L, e = .returned (.tuple #[.pointer (some ⟨g, 0, none⟩), .pointer (some ⟨x, 0, none⟩), .bool true]) ∧ Two w w' g x n L L

theorem conv60 (n : Int) : wrap64 ((IntKind.u64.wrap n).tmod 60) = ((sizeOf60 n : Nat) : Int) := by
  unfold sizeOf60
  rw [IntKind.wrap_u64, Int.tmod_eq_emod_of_nonneg (by omega), IntWalk.wrap64_in _ ⟨by omega, by omega⟩]
  omega
theorem two_start {w w1 w2 : World} {g x n : Nat} (h1 : Below w.heap.size w w1) (h2 : GrIs w1 w.heap.size g n (fun _ _ _ => false)) (h3 : Below w1.heap.size w1 w2) (h4 : RefIs w2 w1.heap.size x n (fun _ _ => 0)) : Two w w2 g x n (fun _ _ => 0) (fun _ _ => 0) := by
  refine ⟨below_then' h1 h3, (h2.below h3).congr fun t a b _ _ _ => by simp [bitsOf], ?_, fun _ _ => Nat.zero_lt_succ _, fun _ _ => Nat.zero_lt_succ _⟩
  obtain ⟨v, r, R⟩ := h4
  have hs := h1.size
  exact ⟨v, r, R.hdr, Nat.le_trans hs R.xb, own_lower R.own hs, fun j hj => ⟨(R.row j hj).1, Nat.le_trans hs (R.row j hj).2⟩, R.inj, R.n_le⟩

set_option maxHeartbeats 2000000 in
theorem drawn_in (n : Int) (A : Option Addr) (cap : Nat) (es : List (Int × Int × Int)) (w : World) (he : EdgesAt w A es) (hlen : es.length ≤ 9223372036854775807) :
    Calls Tryd.prog 6 #[.int .i64 n, .slice A es.length cap] w (Drawn (sizeOf60 n) w) := by
  have hN : sizeOf60 n < 60 := by unfold sizeOf60; omega
  have K := Lib.hid he
  clear he
  go_enter Tryd.func6, Tryd.ntmps6
  go_wp2_with fail
  rw [conv60]
  refine (graph_new (sizeOf60 n) w (by omega)).mono ?_
  rintro e w1 ⟨g, rfl, hb1, hg1⟩
  have B := Lib.hid (And.intro hb1 hg1)
  clear hb1 hg1
  go_wp2_with fail
  refine (ref_new (sizeOf60 n) w1 (by omega)).mono ?_
  rintro e w2 ⟨x, rfl, hb2, hr2⟩
  have T := Lib.hid (two_start B.out.1 B.out.2 hb2 hr2)
  clear hb2 hr2
  go_wp2_with fail
  go_loopw [35] (fun u wr => ∃ k : Nat, k ≤ es.length ∧ u = .int .i64 k ∧ ∃ L, Two w wr g x (sizeOf60 n) L L) (fun u _ => es.length - (intOf u).toNat)
  case atStart => exact ⟨0, Nat.zero_le _, rfl, _, T.out⟩
  case round =>
    obtain ⟨k, hk, rfl, L, hT⟩ := hrel
    by_cases hlt : k < es.length
    · have hlt' : (k : Int) < (es.length : Int) := by omega
      obtain ⟨b, off, rfl, hes⟩ := K.out (by omega)
      obtain ⟨⟨a1, a2, a3⟩, hek⟩ : ∃ e, es[k]? = some e := ⟨_, List.getElem?_eq_getElem hlt⟩
      obtain ⟨d1, d2, d3⟩ := hes k _ hek
      have hbb : b < w.heap.size := World.block_lt_of_cell? w _ d1
      have e1 := (hT.1.cell (p := ⟨b, off + k * 3, none⟩) hbb).trans d1
      have e2 := (hT.1.cell (p := ⟨b, off + k * 3 + 1, none⟩) hbb).trans d2
      have e3 := (hT.1.cell (p := ⟨b, off + k * 3 + 2, none⟩) hbb).trans d3
      have T1 := Lib.hid hT
      clear hT hes d1 d2 d3 hek
      go_wp2_with fail
      obtain ⟨wv, hwv⟩ : ∃ wv : World, wv = wr.alloc (.cells #[.int .i64 a1, .int .i64 a2, .int .i64 a3] 37) := ⟨_, rfl⟩
      rw [← hwv]
      have hblk : wv.heap[wr.heap.size]? = some (.cells #[.int .i64 a1, .int .i64 a2, .int .i64 a3] 37 (0, 0)) := by rw [hwv]; exact heap_alloc_new wr _
      have f1 : wv.cell? ⟨wr.heap.size, 0, none⟩ = some (.int .i64 a1) := by rw [cell_of_row wv _ 0 _ _ _ hblk]; rfl
      have f2 : wv.cell? ⟨wr.heap.size, 1, none⟩ = some (.int .i64 a2) := by rw [cell_of_row wv _ 1 _ _ _ hblk]; rfl
      have f3 : wv.cell? ⟨wr.heap.size, 2, none⟩ = some (.int .i64 a3) := by rw [cell_of_row wv _ 2 _ _ _ hblk]; rfl
      have T2 := Lib.hid (show Two w wv g x (sizeOf60 n) L L by rw [hwv]; exact T1.out.below ((Below.refl _ _).alloc (Nat.le_refl _) _))
      clear hwv e1 e2 e3
      rcases good_or_bad (sizeOf60 n) a1 a2 a3 with ⟨r, hbad⟩ | ⟨a, b', c, rfl, rfl, rfl, ha, hb', hc1, hc2, hab⟩
      · have Hb := Lib.hid hbad
        clear hbad hblk
        go_quiet (first | (go_at_call 20; exact Calls.quiet_of_same (bad20 Hb.out (T2.out.below (below_drewN' (Below.refl _ _) _)))) | (go_at_call 21; exact Calls.quiet_of_same (bad21 Hb.out (T2.out.below (below_drewN' (Below.refl _ _) _)))))
        have hrr : (r != r) = false := by simp
        go_wp2
        go_roundw
        case rel => exact ⟨k + 1, by omega, by go_num, L, T2.out.below (below_drewN' (Below.refl _ _) _)⟩
        case measure => simp [intOf]; omega
      · have T3 : Two w wv.drew g x (sizeOf60 n) L L := T2.out.below (Below.refl _ _).drew
        have K3 : Blk wv.drew wr.heap.size a b' c := hblk
        clear hblk
        have p1 := K3.c0
        have p2 := K3.c1
        have p3 := K3.c2
        go_region_held3 (fun w' => w'.cell? ⟨wr.heap.size, 0, none⟩ = some (.int .i64 (a : Int)) ∧ w'.cell? ⟨wr.heap.size, 1, none⟩ = some (.int .i64 (b' : Int)) ∧ w'.cell? ⟨wr.heap.size, 2, none⟩ = some (.int .i64 (c : Int)))
          (first | exact ⟨p1, p2, p3⟩ | go_keep)
          (first | (go_at_call 20; refine (two20 ha hb' hc1 hc2 hab (by assumption)).mono ?_; rintro e w1 ⟨rfl, h1, h2⟩; have hk := h2 _ _ _ _ (by assumption); have p1 := hk.c0; have p2 := hk.c1; have p3 := hk.c2; clear h2) | (go_at_call 21; refine (two21 ha hb' hc1 hc2 hab (by assumption)).mono ?_; rintro e w1 ⟨rfl, h1, h2⟩; have hk := h2 _ _ _ _ (by assumption); have p1 := hk.c0; have p2 := hk.c1; have p3 := hk.c2; clear h2))
        all_goals
          go_wp2
          go_roundw
          case rel => exact ⟨k + 1, by omega, by go_num, orAt L a b' c, by assumption⟩
          case measure => simp [intOf]; omega
    · obtain rfl : k = es.length := by omega
      have T1 := Lib.hid hT
      clear hT
      go_wp2
      go_ret3
      exact ⟨_, _, L, rfl, T1.out⟩
end Go.Proofs.YtcfbcfcoigifiaaDoor
