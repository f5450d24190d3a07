/- The law of a graph of dependencies, walked. -/
import Derived.Test.YtcfbcfcoigifiaaDoorDe
set_option linter.unusedVariables false
set_option linter.unusedSimpArgs false
namespace Go.Proofs.YtcfbcfcoigifiaaDoor
open Go.RowKit Go.Maps

set_option maxHeartbeats 400000 in
theorem dgraph_bad (n : Int) (v : Value) (w : World) (h : n < 0 ∨ 300 < n) : Calls Tryd.prog 13 #[.int .i64 n, v] w fun e w' => e = .returned (.tuple #[.pointer none, .int .i64 1]) ∧ w = w' := by
  have A := Lib.hid (new_bad n w h)
  clear h
  go_enter Tryd.func13, Tryd.ntmps13
  go_wp2_with fail
  refine A.out.mono ?_
  rintro e w' ⟨rfl, rfl⟩
  go_wp2
  go_ret2
  exact ⟨rfl, rfl⟩
set_option maxHeartbeats 400000 in
theorem xgraph_bad (n : Int) (v : Value) (w : World) (h : n < 0 ∨ 300 < n) : Calls Tryd.prog 14 #[.int .i64 n, v] w fun e w' => e = .returned (.tuple #[.pointer none, .int .i64 1]) ∧ w = w' := by
  have A := Lib.hid (rnew_bad n w h)
  clear h
  go_enter Tryd.func14, Tryd.ntmps14
  go_wp2_with fail
  refine A.out.mono ?_
  rintro e w' ⟨rfl, rfl⟩
  go_wp2
  go_ret2
  exact ⟨rfl, rfl⟩
theorem firstBad_all {n : Nat} : ∀ {l : List WhyV}, firstBad n l = none → ∀ (j : Nat) e', l[j]? = some e' → badOf n e' = none
  | [], _, j, e', h => by simp at h
  | x :: l, hb, j, e', h => by
    rw [firstBad] at hb
    split at hb
    · cases hb
    · rename_i hx
      cases j with
      | zero => simp at h; rw [← h]; exact hx
      | succ j => exact firstBad_all hb j e' (by simpa using h)

set_option maxHeartbeats 1000000 in
theorem depsgraph_bad (n : Int) (v : Value) (w : World) (h : n < 0 ∨ 300 < n) : Calls Tryd.prog 5 #[.int .i64 n, v] w (Holds w) := by
  have A := Lib.hid (And.intro (dgraph_bad n v w h) (xgraph_bad n v w h))
  clear h
  go_enter Tryd.func5, Tryd.ntmps5
  go_wp2_with fail
  refine A.out.1.mono ?_
  rintro e w' ⟨rfl, rfl⟩
  go_wp2_with fail
  refine A.out.2.mono ?_
  rintro e w' ⟨rfl, rfl⟩
  go_wp2
  go_ret
  exact ⟨rfl, Below.refl _ _⟩

def MRel (w2 wr : World) (n : Nat) (l : List WhyV) (k : Nat) : Prop := Below w2.heap.size w2 wr ∧ LabMap wr w2.heap.size k (labs (l.take k)) n
set_option maxHeartbeats 2000000 in
theorem depsgraph_good (n : Nat) (A : Option Addr) (cap : Nat) (l : List WhyV) (w : World) (hn : n ≤ 300) (hA : WhyAt w A l) (hlen : l.length ≤ maxLen) (hT : Tab w) :
    Calls Tryd.prog 5 #[.int .i64 n, .slice A l.length cap] w (Holds w) := by
  have hmm := @run_makeMap Tryd.prog
  have hl63 : l.length ≤ 9223372036854775807 := by unfold maxLen at hlen; omega
  have H := Lib.hid (And.intro hA hT)
  clear hT
  go_enter Tryd.func5, Tryd.ntmps5
  go_wp2_with fail
  refine (dgraph_in n A cap l w hn hA hl63).mono ?_
  rintro e w1 ⟨hb1, h1⟩
  have hA1 := hA.below hb1
  clear hA
  rcases h1 with ⟨r, hr, rfl⟩ | ⟨g, hr, rfl, hg⟩
  · have B := Lib.hid (And.intro hb1 hr)
    clear hb1 hr
    go_wp2_with fail
    refine (xgraph_in n A cap l w1 hn hA1 hl63).mono ?_
    rintro e w2 ⟨hb2, h2⟩
    clear hA1
    rcases h2 with ⟨r', hr', rfl⟩ | ⟨x, hr', _, _⟩
    · have er : r' = r := by have := hr'.symm.trans B.out.2; injection this
      subst er
      have hrr : (r' != r') = false := by simp
      have C := Lib.hid hb2
      clear hb2 hr'
      go_wp2
      go_ret
      exact ⟨rfl, below_then' B.out.1 C.out⟩
    · rw [B.out.2] at hr'; cases hr'
  · have B := Lib.hid (And.intro hb1 (And.intro hr hg))
    clear hb1 hr hg
    go_wp2_with fail
    refine (xgraph_in n A cap l w1 hn hA1 hl63).mono ?_
    rintro e w2 ⟨hb2, h2⟩
    rcases h2 with ⟨r', hr', rfl⟩ | ⟨x, hr', rfl, hx, hx16⟩
    · rw [B.out.2.1] at hr'; cases hr'
    · have C := Lib.hid (And.intro hb2 (And.intro hx (And.intro hx16 (hA1.below hb2))))
      clear hb2 hx hx16 hr' hA1
      go_wp2_with fail
      go_loopw [41] (fun u wr => ∃ k : Nat, k ≤ l.length ∧ u = .int .i64 k ∧ MRel w2 wr n l k) (fun u _ => l.length - (intOf u).toNat)
      case atStart => exact ⟨0, Nat.zero_le _, rfl, (Below.refl _ _).alloc (Nat.le_refl _) _, by have := labmap_made w2 n; simpa [labs] using this⟩
      case round =>
        obtain ⟨k, hk, rfl, R⟩ := hrel
        by_cases hlt : k < l.length
        · have hlt' : (k : Int) < (l.length : Int) := by omega
          obtain ⟨e, hek⟩ : ∃ e, l[k]? = some e := ⟨_, List.getElem?_eq_getElem hlt⟩
          obtain ⟨b, off, rfl, hW⟩ := C.out.2.2.2 k e hek
          obtain ⟨d0, d1, d2, d3, d4, d5, d6, d7⟩ := hW.below R.1
          have hgood := firstBad_all B.out.2.1
          obtain ⟨a', b', c', e1, e2, e3, ha, hb', hc1, hc2, hab⟩ := badOf_none (hgood k e hek)
          have hstep := labs_take hek e1 e2 e3
          have hF16 := labs_take_lt (n := n) (k := k) (l := l) (fun j e' _ he => hgood j e' he)
          obtain ⟨ea, eb, ec, ek, ex, ey, en, ed⟩ := e
          dsimp only at d0 d1 d2 d3 d4 d5 d6 d7 e1 e2 e3
          subst e1 e2 e3
          have R2 := Lib.hid (And.intro R (And.intro hstep hF16))
          clear R hW hek hgood hstep hF16
          go_wp2_with fail
          obtain ⟨wv, hwv⟩ : ∃ wv : World, wv = wr.alloc (.cells #[.int .i64 (a' : Nat), .int .i64 (b' : Nat), .int .i64 (c' : Nat), .string ek, .int .i64 ex, .int .i64 ey, .bool en, .bool ed] 50) := ⟨_, rfl⟩
          rw [← hwv]
          have hblk : wv.heap[wr.heap.size]? = some (.cells #[.int .i64 (a' : Nat), .int .i64 (b' : Nat), .int .i64 (c' : Nat), .string ek, .int .i64 ex, .int .i64 ey, .bool en, .bool ed] 50 (0, 0)) := by rw [hwv]; exact heap_alloc_new wr _
          have hbv : Below wr.heap.size wr wv.drew := by rw [hwv]; exact ((Below.refl _ _).alloc (Nat.le_refl _) _).drew
          have hmapv := R2.out.1.2.keep hbv
          have hlt9 := R2.out.1.2.lt
          clear hwv d0 d1 d2 d3 d4 d5 d6 d7
          have hL0 := hmapv.look ha hb' hn
          obtain ⟨st, W1, W2, hE, hL1, hoth, hS, hmap2, hgr⟩ := hmapv.step ha hb' hn (Nat.lt_of_lt_of_le hlt hlen) hc1 hc2 (R2.out.2.2 a' b')
          have hblk1 : W1.heap[wr.heap.size]? = some (.cells #[.int .i64 (a' : Nat), .int .i64 (b' : Nat), .int .i64 (c' : Nat), .string ek, .int .i64 ex, .int .i64 ey, .bool en, .bool ed] 50 (0, 0)) := by
            rw [hoth _ (by omega)]; exact hblk
          have f0 : wv.drew.cell? ⟨wr.heap.size, 0, none⟩ = some (.int .i64 (a' : Nat)) := by rw [cell_of_row wv.drew _ 0 _ _ _ hblk]; rfl
          have f1 : wv.drew.cell? ⟨wr.heap.size, 1, none⟩ = some (.int .i64 (b' : Nat)) := by rw [cell_of_row wv.drew _ 1 _ _ _ hblk]; rfl
          have f2 : wv.drew.cell? ⟨wr.heap.size, 2, none⟩ = some (.int .i64 (c' : Nat)) := by rw [cell_of_row wv.drew _ 2 _ _ _ hblk]; rfl
          have g0 : W1.cell? ⟨wr.heap.size, 0, none⟩ = some (.int .i64 (a' : Nat)) := by rw [cell_of_row W1 _ 0 _ _ _ hblk1]; rfl
          have g1 : W1.cell? ⟨wr.heap.size, 1, none⟩ = some (.int .i64 (b' : Nat)) := by rw [cell_of_row W1 _ 1 _ _ _ hblk1]; rfl
          have g2 : W1.cell? ⟨wr.heap.size, 2, none⟩ = some (.int .i64 (c' : Nat)) := by rw [cell_of_row W1 _ 2 _ _ _ hblk1]; rfl
          have hor : bits .or .i64 ((labs (l.take k) a' b' : Nat) : Int) (c' : Int) = ((labs (l.take k) a' b' ||| c' : Nat) : Int) := or4 _ _ (R2.out.2.2 a' b') (by omega)
          rw [← hor] at hS
          have Z := Lib.hid (show MRel w2 W2 n l (k + 1) from ⟨(below_then' R2.out.1.1 hbv).grown hgr (Nat.le_trans R2.out.1.1.size hbv.size) (fun j hj => by injection hj with hj; omega), by rw [R2.out.2.1]; exact hmap2⟩)
          obtain ⟨y, hy⟩ : ∃ y, y = labs (l.take k) a' b' := ⟨_, rfl⟩
          rw [← hy] at hL0 hL1 hE hS
          unfold goInt at hE hS
          clear hmapv hblk hblk1 hoth hbv hmap2 hgr hor hy hlt9
          go_region
          all_goals
            go_wp2
            go_roundw
            case rel => exact ⟨k + 1, by omega, by go_num, Z.out⟩
            case measure => simp [intOf]; omega
        · obtain rfl : k = l.length := by omega
          have hm : LabMap wr w2.heap.size l.length (labs l) n := by have := R.2; rwa [List.take_length] at this
          have b02 := below_then' B.out.1 C.out.1
          have R2 := Lib.hid (And.intro R.1 (And.intro hm (And.intro ((B.out.2.2.below C.out.1).below R.1) (And.intro (C.out.2.1.below R.1) ((H.out.2.below b02).below R.1)))))
          have W0 := Lib.hid (below_then' b02 R.1)
          clear R hm b02
          go_wp2_with fail
          refine (gedges_in w.heap.size g n (labs l) wr R2.out.2.2.1 C.out.2.2.1 R2.out.2.2.2.2).mono ?_
          rintro e w5 ⟨v2, rfl, hb5, ho5⟩
          obtain ⟨O2, c2, hv2, hcell2⟩ := tris_cells ho5
          subst hv2
          obtain ⟨es2, hes2⟩ : ∃ es2, es2 = allE (labs l) n n := ⟨_, rfl⟩
          have hln : es2.length ≤ 100000 := by
            rw [hes2]
            have q1 := allE_length (labs l) n n
            have q3 : n * n ≤ 300 * 300 := Nat.mul_le_mul (by omega) (by omega)
            omega
          rw [← hes2] at hcell2 ⊢
          have G := Lib.hid (And.intro hb5 (And.intro hcell2 (And.intro (R2.out.2.1.keep hb5) hes2)))
          clear hb5 hcell2 ho5 hes2
          go_wp2_with fail
          go_loopw [61] (fun u wr => ∃ k : Nat, k ≤ es2.length ∧ u = .int .i64 k ∧ Below w5.heap.size w5 wr) (fun u _ => es2.length - (intOf u).toNat)
          case atStart => exact ⟨0, Nat.zero_le _, rfl, Below.refl _ _⟩
          case round =>
            obtain ⟨t, ht, rfl, hb6⟩ := hrel
            by_cases htl : t < es2.length
            · obtain ⟨⟨a, b, y⟩, hek⟩ : ∃ e, es2[t]? = some e := ⟨_, List.getElem?_eq_getElem htl⟩
              obtain ⟨gE, rfl, e1, e2, e3⟩ := G.out.2.1 t _ hek
              have f1 := old_cell hb6 e1
              have f2 := old_cell hb6 e2
              have f3 := old_cell hb6 e3
              have htl' : (t : Int) < (es2.length : Int) := by omega
              have hmem := allE_mem (show (a, b, y) ∈ allE (labs l) n n by rw [← G.out.2.2.2]; exact List.mem_iff_getElem?.2 ⟨t, hek⟩)
              have hb7 : Below w5.heap.size w5 (wr.alloc (.cells #[.int .i64 (a : Nat), .int .i64 (b : Nat), .int .i64 (y : Nat)] 37)) := hb6.alloc hb6.size _
              have look := fun m => ((G.out.2.2.1.keep hb7).keep (below_drewN' (Below.refl _ _) m)).look hmem.1 hmem.2.1 hn
              rw [← hmem.2.2] at look
              have hyy : (((y : Nat) : Int) != ((y : Nat) : Int)) = false := by simp
              have Z := Lib.hid hb7
              clear e1 e2 e3 hek hmem hb7 hb6
              go_wp2_with fail
              go_quiet (fail)
              go_wp2
              go_roundw
              case rel => exact ⟨t + 1, by omega, by go_num, below_drewN' Z.out _⟩
              case measure => simp [intOf]; omega
            · obtain rfl : t = es2.length := by omega
              have b25 := below_then' G.out.1 hb6
              have X := Lib.hid (And.intro b25 (And.intro (R2.out.2.2.1.below b25) (And.intro (R2.out.2.2.2.1.below b25) (And.intro (R2.out.2.2.2.2.below b25) (R2.out.2.1.keep b25)))))
              clear hb6 b25
              go_wp2_with fail
              refine (gedges_in w.heap.size g n (labs l) _ X.out.2.1 C.out.2.2.1 X.out.2.2.2.1).mono ?_
              rintro e w6 ⟨v6, rfl, hb6, ho6⟩
              have Y := Lib.hid (And.intro hb6 (And.intro (X.out.2.1.below hb6) (And.intro (X.out.2.2.1.below hb6) (X.out.2.2.2.2.keep hb6))))
              clear hb6
              go_wp2_with fail
              refine (redges_in w1.heap.size x n (labs l) w6 Y.out.2.2.1 C.out.2.2.1).mono ?_
              rintro e w7 ⟨v7, rfl, hb7, ho7⟩
              have ho67 := OwnTris.below ho6 hb7
              clear ho6
              obtain ⟨O6, c6, hv6, hcell6⟩ := tris_cells ho67
              obtain ⟨O7, c7, hv7, hcell7⟩ := tris_cells ho7
              subst hv6 hv7
              have hes := G.out.2.2.2
              rw [← hes] at hcell6 hcell7 ⊢
              have V := Lib.hid (And.intro hb7 (And.intro (Y.out.2.2.1.below hb7) (And.intro hcell6 (And.intro hcell7 (Y.out.2.2.2.keep hb7)))))
              obtain ⟨vv, pp, qq, RR⟩ := Y.out.2.1.below hb7
              have h0g := RR.cn
              have hbN : Below w7.heap.size w7 w7 := Below.refl _ _
              clear hb7 ho7 ho67 hcell6 hcell7 RR hes
              go_wp2_with fail
              refine (equal_tris O6 O7 c6 c7 es2 w7 V.out.2.2.1 V.out.2.2.2.1 hln).mono ?_
              rintro e w8 ⟨rfl, m8, hw8⟩
              have b8 : Below w7.heap.size w7 w8 := by rw [hw8]; exact below_drewN' (Below.refl _ _) _
              have h0g8 := old_cell b8 h0g
              have U := Lib.hid (And.intro b8 (And.intro (V.out.2.1.below b8) (V.out.2.2.2.2.keep b8)))
              clear hw8 b8 h0g
              go_wp2_with fail
              refine (redges_in w1.heap.size x n (labs l) w8 U.out.2.1 C.out.2.2.1).mono ?_
              rintro e w9 ⟨v9, rfl, hb9, ho9⟩
              obtain ⟨O9, c9, hv9, _⟩ := tris_cells ho9
              subst hv9
              have hes := G.out.2.2.2
              rw [← hes]
              have h0g9 := old_cell hb9 h0g8
              have len9 := (U.out.2.2.keep hb9).len
              rw [← hes] at len9
              have T := Lib.hid (And.intro hb9 (nodes_is g n w9 h0g9))
              clear hb9 ho9 h0g8 hes
              go_wp2_with fail
              refine T.out.2.mono ?_
              rintro e w' ⟨rfl, rfl⟩
              go_wp2
              go_ret
              exact ⟨rfl, below_then' W0.out (below_then' X.out.1 (below_then' Y.out.1 (below_then' V.out.1 (below_then' U.out.1 T.out.1))))⟩
end Go.Proofs.YtcfbcfcoigifiaaDoor
