/- A new graph. -/
import Derived.Test.YtcfbcfcoigifiaaDoorF
set_option linter.unusedVariables false
set_option linter.unusedSimpArgs false
namespace Go.Proofs.YtcfbcfcoigifiaaDoor
open Go.RowKit

/-- A graph whose labels are M, all of it in blocks from 'base' on. -/
def GrIs (w : World) (base g n : Nat) (M : Nat → Nat → Nat → Bool) : Prop := ∃ v p q, GrRow w base g n (fun _ => n) v p q M

def Making (w wr : World) (g n i j : Nat) : Prop := Below w.heap.size w wr ∧ ∃ v p q, GrRow wr w.heap.size g n (cntOf n i j) v p q (fun _ _ _ => false)
theorem Making.next {w wr : World} {g n i : Nat} (h : Making w wr g n i n) : Making w wr g n (i + 1) 0 := by
  obtain ⟨h1, v, p, q, h2⟩ := h
  rw [cnt_next] at h2
  exact ⟨h1, v, p, q, h2⟩
theorem GrRow.congr {w : World} {base g n : Nat} {cnt cnt' : Nat → Nat} {v : Nat → Value} {p q : Nat → Nat → Nat} {M : Nat → Nat → Nat → Bool} (h : GrRow w base g n cnt v p q M) (hc : ∀ i, i < 4 → cnt i = cnt' i) : GrRow w base g n cnt' v p q M :=
  ⟨h.hdr, h.gb, h.n_le, fun i hi => hc i hi ▸ h.rows i hi, fun i hi j hj => h.sets i hi j (by rw [hc i hi]; exact hj),
    fun i j i' j' h1 h2 h3 h4 => h.inj i j i' j' h1 (by rw [hc i h1]; exact h2) h3 (by rw [hc i' h3]; exact h4), h.apart⟩
theorem Making.done {w wr : World} {g n : Nat} (h : Making w wr g n 4 0) : GrIs wr w.heap.size g n (fun _ _ _ => false) := by
  obtain ⟨h1, v, p, q, h2⟩ := h
  exact ⟨v, p, q, h2.congr fun i hi => cnt_end n i hi⟩
def NewGraph (n : Nat) (w : World) (e : Ending) (w' : World) : Prop := ∃ g, e = .returned (.tuple #[.pointer (some ⟨g, 0, none⟩), .int .i64 0]) ∧ Below w.heap.size w w' ∧ GrIs w' w.heap.size g n (fun _ _ _ => false)

theorem making_start (w : World) (n : Nat) (hn : n ≤ 300) : Making w (w.alloc (.cells #[.int .i64 n, .slice none 0 0, .slice none 0 0, .slice none 0 0, .slice none 0 0, .bool true] 68)) w.heap.size n 0 0 := by
  refine ⟨(Below.refl _ _).alloc (Nat.le_refl _) _, fun _ => .slice none 0 0, fun _ _ => 0, fun _ _ => 0, ?_⟩
  rw [cnt_start]
  exact ⟨heap_alloc_new w _, Nat.le_refl _, hn, fun i _ => World.ownsRow_nil _ _ _ _, fun i _ j hj => absurd hj (by omega), fun i j i' j' _ hj => absurd hj (by omega), fun i i' _ _ _ k hk => by simp [Value.ownBlock] at hk⟩

theorem grown_alloc {w1 w2 : World} {X : Obj} {row : Option Nat} (h : (w1.alloc X).drew.grownBy w2 row) : ∀ k, k < w1.heap.size → some k ≠ row → w2.heap[k]? = w1.heap[k]? :=
  fun k hk hne => (h.block k (by show k < (w1.alloc X).heap.size; simp; omega) hne).trans (Below.heap_alloc w1 X k hk)
theorem GrRow.far {w1 w2 : World} {base g n i : Nat} {cnt : Nat → Nat} {v : Nat → Value} {p q : Nat → Nat → Nat} {M : Nat → Nat → Nat → Bool} (R : GrRow w1 base g n cnt v p q M) (hi : i < 4)
    (h : ∀ k, k < w1.heap.size → some k ≠ (v i).ownBlock → w2.heap[k]? = w1.heap[k]?) : w2.heap[g]? = w1.heap[g]? :=
  h g (lt_of_some R.hdr) fun e => by
    obtain ⟨_, cur, hc⟩ := own_block (R.rows i hi) e.symm
    rw [R.hdr] at hc
    simp at hc
theorem GrRow.cv2 {w1 w2 : World} {base g n i : Nat} {cnt : Nat → Nat} {v : Nat → Value} {p q : Nat → Nat → Nat} {M : Nat → Nat → Nat → Bool} (R : GrRow w1 base g n cnt v p q M) (hi : i < 4)
    (h : ∀ k, k < w1.heap.size → some k ≠ (v i).ownBlock → w2.heap[k]? = w1.heap[k]?) : w2.cell? ⟨g, 1 + i, none⟩ = some (v i) :=
  (World.cell?_of_block (w := w1) (a := ⟨g, 1 + i, none⟩) (R.far hi h)).trans (R.cv i hi)
theorem GrRow.fr2 {w1 w2 : World} {base g n i : Nat} {cnt : Nat → Nat} {v : Nat → Value} {p q : Nat → Nat → Nat} {M : Nat → Nat → Nat → Bool} (R : GrRow w1 base g n cnt v p q M) (hi : i < 4)
    (h : ∀ k, k < w1.heap.size → some k ≠ (v i).ownBlock → w2.heap[k]? = w1.heap[k]?) : w2.frozen? ⟨g, 1 + i, none⟩ = false :=
  (World.frozen?_of_block (w := w1) (a := ⟨g, 1 + i, none⟩) (R.far hi h)).trans (R.fr (1 + i))

theorem making_step {w wr w1 w2 : World} {n i j p' q' gg cap : Nat} {v : Nat → Value} {p q : Nat → Nat → Nat} {X : Obj}
    (hb : Below w.heap.size w wr) (R : GrRow wr w.heap.size w.heap.size n (cntOf n i j) v p q (fun _ _ _ => false)) (R1 : GrRow w1 w.heap.size w.heap.size n (cntOf n i j) v p q (fun _ _ _ => false)) (hb1 : Below wr.heap.size wr w1)
    (hS : SetIs w1 p' q' n (fun _ => false)) (hq' : wr.heap.size ≤ q') (hi : i < 4) (hj : j < n)
    (ho : w2.ownsRow w.heap.size 69 1 (.slice (some ⟨gg, 0, none⟩) (j + 1) cap) (j + 1) (ptrs (p i) j ++ [.pointer (some ⟨p', 0, none⟩)]))
    (hgrow : (w1.alloc X).drew.grownBy w2 (v i).ownBlock) (hat : (v i).ownBlock = some gg ∨ gg = (w1.alloc X).drew.heap.size) :
    Making w (w2.setCell ⟨w.heap.size, 1 + i, none⟩ (.slice (some ⟨gg, 0, none⟩) (j + 1) cap)) w.heap.size n i (j + 1) := by
  have hs := hb.size
  have hs1 := hb1.size
  refine ⟨?_, _, _, _, R1.step (W0 := wr.heap.size) (H := 0) hi hj hS (by omega) ?_ hq' ho (grown_alloc hgrow) ?_⟩
  · have b1 : Below w.heap.size w w1 := hb.trans (hb1.mono hs)
    have b2 : Below w.heap.size w (w1.alloc X).drew := (b1.alloc (by omega) X).drew
    exact (b2.grown hgrow (by show w.heap.size ≤ (w1.alloc X).heap.size; simp; omega) (fun k hk => (own_block (R1.rows i hi) hk).1)).setCell (Nat.le_refl _) _
  · intro a b ha hb2
    exact ((R.sets a ha b hb2).1.lt).2
  · rcases hat with hat | rfl
    · exact .inl hat
    · exact .inr (by show w1.heap.size ≤ (w1.alloc X).heap.size; simp)

set_option maxHeartbeats 1000000 in
theorem graph_new (n : Nat) (w : World) (hn : n ≤ 300) : Calls Tryd.prog 18 #[.int .i64 n] w (NewGraph n w) := by
  obtain ⟨i0, hi0, hz0, hz1, hz2⟩ := info_parts Tryd.info69
  have h0 : decide ((n : Int) < 0) = false := by simp
  have h1 : decide ((300 : Int) < (n : Int)) = false := by simp; omega
  go_enter Tryd.func18, Tryd.ntmps18
  go_wp2_with fail
  go_loopw [17] (fun u wr => ∃ i : Nat, i ≤ 4 ∧ u = .int .i64 i ∧ Making w wr w.heap.size n i 0) (fun u _ => 4 - (intOf u).toNat)
  case atStart => exact ⟨0, by omega, rfl, making_start w n hn⟩
  case round =>
    obtain ⟨i, hi, rfl, hm⟩ := hrel
    obtain ⟨wo, rfl⟩ : ∃ wo : World, wo = wr := ⟨_, rfl⟩
    by_cases hlt : i < 4
    · have hd : decide ((i : Int) < 4) = true := by simp; omega
      go_wp2_with fail
      go_loopw [21] (fun u wr => ∃ j : Nat, j ≤ n ∧ u = .int .i64 j ∧ Making w wr w.heap.size n i j) (fun u _ => n - (intOf u).toNat)
      case atStart => exact ⟨0, by omega, rfl, hm⟩
      case round =>
        obtain ⟨j, hj, rfl, hm'⟩ := hrel
        by_cases hjn : j < n
        · go_wp2_with fail
          refine (new_ok n wr (by omega)).mono ?_
          rintro e w1 ⟨p', q', rfl, hp', hq', hb1, hS⟩
          obtain ⟨hb, v, p, q, R⟩ := hm'
          have R1 := R.keep (w' := w1) (fun k c T hk _ => hb1.block k (lt_of_some hk))
          have cv := R1.cv i hlt
          have fr := R1.fr (1 + i)
          have cg := R1.cn
          have hrow := R1.rows i hlt
          have A := Lib.hid (And.intro hb (And.intro R (And.intro R1 (And.intro hb1 (And.intro hS (And.intro hp' (And.intro hq' hrow)))))))
          clear hb R R1 hb1 hS hp' hq' hrow hm
          have hsz := lt_of_some A.out.2.2.1.hdr
          rw [show cntOf n i j i = j by simp [cntOf]] at A
          go_wp2_with fail
          have hd2 : (i : Int) < 4 := by omega
          go_region_law (refine step_append_lies _ rfl (.tmp 38) (.tmp 40) 65 rfl w.heap.size 69 i0 (.pointer none) 1 8 Tryd.underlying65 hi0 hz0 hz1 hz2 rfl (by decide) (v i) j (ptrs (p i) j) (by simp [Act.eval, Act.put]) (A.out.2.2.2.2.2.2.2.alloc _) ⟨w1.heap.size, 0, none⟩ 1 1 [.pointer (some ⟨p', 0, none⟩)] (by simp [Act.eval, Act.put]) rfl (cell_one_new _ _ _) (one_cell1 rfl) (by decide) (by unfold maxLen; omega) (by omega) (by simp; omega) _ rfl ?_; intro gg cap w2 ho hgrow hat hlt2; have cv2 := A.out.2.2.1.cv2 hlt (grown_alloc hgrow); have fr2 := A.out.2.2.1.fr2 hlt (grown_alloc hgrow); have B := Lib.hid (And.intro ho (And.intro hgrow (And.intro hat hlt2))); clear ho hgrow hat hlt2)
          all_goals
            go_wp2
            go_roundw
            case rel =>
              exact ⟨j + 1, by omega, by go_num, making_step A.out.1 A.out.2.1 A.out.2.2.1 A.out.2.2.2.1 A.out.2.2.2.2.1 A.out.2.2.2.2.2.2.1 hlt hjn B.out.1 B.out.2.1 B.out.2.2.1⟩
            case measure => simp [intOf]; omega
        · obtain rfl : j = n := by omega
          have hm2 := hm'.next
          have A := Lib.hid hm2
          clear hm hm' hm2
          go_wp2
          go_roundw
          case rel => exact ⟨i + 1, by omega, by go_num, A.out⟩
          case measure => simp [intOf]; omega
    · obtain rfl : i = 4 := by omega
      have A := Lib.hid hm.done
      have B := Lib.hid hm.1
      clear hm
      go_wp2
      go_ret2
      exact ⟨_, rfl, B.out, A.out⟩
end Go.Proofs.YtcfbcfcoigifiaaDoor
