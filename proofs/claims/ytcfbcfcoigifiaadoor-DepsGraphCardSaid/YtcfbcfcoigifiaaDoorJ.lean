/- The document's graph in memory: a matrix of labels. -/
import Derived.Test.YtcfbcfcoigifiaaDoorI
set_option linter.unusedVariables false
set_option linter.unusedSimpArgs false
namespace Go.Proofs.YtcfbcfcoigifiaaDoor
open Go.RowKit

theorem Tryd.info27 : (Tryd.prog.info? 27).map (fun i => (i.zero, i.size, i.bytes)) = some (some (.slice none 0 0), 1, 24) := by kernel_rfl

def rowV (f : Nat → Nat) (n : Nat) : Array Value := ((List.range n).map fun b => Value.int .i64 ((f b : Nat) : Int)).toArray
theorem rowV_size (f : Nat → Nat) (n : Nat) : (rowV f n).size = n := by simp [rowV]
theorem rowV_at (f : Nat → Nat) (n b : Nat) (h : b < n) : (rowV f n)[b]? = some (.int .i64 ((f b : Nat) : Int)) := by
  simp [rowV, List.getElem?_range h]
theorem rowV_set (f : Nat → Nat) (n b x : Nat) : (rowV f n).setIfInBounds b (.int .i64 (x : Int)) = rowV (upd f b x) n := by
  apply Array.ext
  · simp [rowV]
  · intro i h1 h2
    simp only [rowV, List.setIfInBounds_toArray, List.getElem_toArray, List.getElem_set, List.getElem_map, List.getElem_range, upd]
    by_cases e : b = i
    · subst e; simp
    · rw [if_neg e, if_neg (fun h : i = b => e h.symm)]
def heads (r : Nat → Nat) (m k : Nat) : List Value := (List.range k).map fun j => .slice (some ⟨r j, 0, none⟩) m m
theorem heads_at (r : Nat → Nat) (m k j : Nat) (h : j < k) : (heads r m k)[j]? = some (.slice (some ⟨r j, 0, none⟩) m m) := by
  simp [heads, List.getElem?_range h]
theorem heads_succ (r : Nat → Nat) (m k : Nat) : heads r m (k + 1) = heads r m k ++ [.slice (some ⟨r k, 0, none⟩) m m] := by simp [heads, List.range_succ]
theorem heads_congr {r r' : Nat → Nat} {m k : Nat} (h : ∀ j, j < k → r j = r' j) : heads r m k = heads r' m k := by
  unfold heads
  apply List.map_congr_left
  intro j hj
  rw [h j (List.mem_range.1 hj)]

/-- The matrix at block x, k rows of which are made. -/
structure RefRow (w : World) (base x n k : Nat) (v : Value) (r : Nat → Nat) (L : Nat → Nat → Nat) : Prop where
  hdr : w.heap[x]? = some (.cells #[v] 33 (0, 0))
  xb : base ≤ x
  own : w.ownsRow base 27 1 v k (heads r n k)
  row : ∀ j, j < k → w.heap[r j]? = some (.cells (rowV (L j) n) 3 (0, 0)) ∧ base ≤ r j
  inj : ∀ j j', j < k → j' < k → r j = r j' → j = j'
  n_le : n ≤ 300
def RefIs (w : World) (base x n : Nat) (L : Nat → Nat → Nat) : Prop := ∃ v r, RefRow w base x n n v r L

theorem RefRow.keep {w w' : World} {base x n k : Nat} {v : Value} {r : Nat → Nat} {L : Nat → Nat → Nat} (h : RefRow w base x n k v r L)
    (hb : ∀ (k : Nat) (c : Array Value) (T : Nat), w.heap[k]? = some (Obj.cells c T (0, 0)) → T = 33 ∨ T = 27 ∨ T = 3 → w'.heap[k]? = w.heap[k]?) : RefRow w' base x n k v r L :=
  ⟨(hb _ _ _ h.hdr (.inl rfl)).trans h.hdr, h.xb, own_keep h.own fun k _ _ ⟨cur, hk⟩ => hb k _ _ hk (.inr (.inl rfl)), fun j hj => ⟨(hb _ _ _ (h.row j hj).1 (.inr (.inr rfl))).trans (h.row j hj).1, (h.row j hj).2⟩, h.inj, h.n_le⟩
theorem RefIs.below {w w' : World} {base x n : Nat} {L : Nat → Nat → Nat} (h : RefIs w base x n L) (hb : Below w.heap.size w w') : RefIs w' base x n L := by
  obtain ⟨v, r, h⟩ := h
  exact ⟨v, r, h.keep fun k c T hk _ => hb.block k (lt_of_some hk)⟩
theorem RefIs.ty {w w' : World} {base b T x n : Nat} {L : Nat → Nat → Nat} (h : RefIs w base x n L) (hb : Ty b T w w') (hT : T ≠ 33 ∧ T ≠ 27 ∧ T ≠ 3) : RefIs w' base x n L := by
  obtain ⟨v, r, h⟩ := h
  exact ⟨v, r, h.keep fun k c T' hk hT' => (hb.keep hk (by omega)).trans hk.symm⟩
theorem GrIs.below {w w' : World} {base g n : Nat} {M : Nat → Nat → Nat → Bool} (h : GrIs w base g n M) (hb : Below w.heap.size w w') : GrIs w' base g n M := by
  obtain ⟨v, p, q, h⟩ := h
  exact ⟨v, p, q, h.keep fun k c T hk _ => hb.block k (lt_of_some hk)⟩
theorem GrIs.ty {w w' : World} {base b T g n : Nat} {M : Nat → Nat → Nat → Bool} (h : GrIs w base g n M) (hb : Ty b T w w') (hT : T ≠ 68 ∧ T ≠ 69 ∧ T ≠ 79 ∧ T ≠ 81) : GrIs w' base g n M := by
  obtain ⟨v, p, q, h⟩ := h
  exact ⟨v, p, q, h.keep fun k c T' hk hT' => (hb.keep hk (by omega)).trans hk.symm⟩

/-- One row more. -/
theorem RefRow.step {w w2 : World} {base x n j b gg cap : Nat} {v : Value} {r : Nat → Nat}
    (h : RefRow w base x n j v r (fun _ _ => 0)) (hb : w.heap[b]? = some (.cells (rowV (fun _ => 0) n) 3 (0, 0))) (hbb : base ≤ b) (hnew : ∀ t, t < j → r t ≠ b)
    (hown : w2.ownsRow base 27 1 (.slice (some ⟨gg, 0, none⟩) (j + 1) cap) (j + 1) (heads r n j ++ [.slice (some ⟨b, 0, none⟩) n n]))
    (hgrow : ∀ k, k < w.heap.size → some k ≠ v.ownBlock → w2.heap[k]? = w.heap[k]?) :
    RefRow (w2.setCell ⟨x, 0, none⟩ (.slice (some ⟨gg, 0, none⟩) (j + 1) cap)) base x n (j + 1) (.slice (some ⟨gg, 0, none⟩) (j + 1) cap) (upd r j b) (fun _ _ => 0) := by
  have hkeep : ∀ (k : Nat) (c : Array Value) (T : Nat), w.heap[k]? = some (Obj.cells c T (0, 0)) → T ≠ 27 → w2.heap[k]? = w.heap[k]? := fun k c T hk hT => hgrow k (lt_of_some hk) fun e => by
    obtain ⟨_, cur, hc⟩ := own_block h.own e.symm
    rw [hk] at hc
    injection hc with hc
    injection hc with _ hc
    exact hT hc
  have hx2 : w2.heap[x]? = some (.cells #[v] 33 (0, 0)) := (hkeep x _ _ h.hdr (by decide)).trans h.hdr
  have hk3 : ∀ (k : Nat) (c : Array Value), w.heap[k]? = some (Obj.cells c 3 (0, 0)) → (w2.setCell ⟨x, 0, none⟩ (.slice (some ⟨gg, 0, none⟩) (j + 1) cap)).heap[k]? = w.heap[k]? := fun k c hk => by
    rw [Below.heap_setCell _ _ _ _ (fun e => by
      have e : k = x := e
      rw [e, h.hdr] at hk
      simp at hk)]
    exact hkeep k c 3 hk (by decide)
  refine ⟨?_, h.xb, ?_, ?_, ?_, h.n_le⟩
  · rw [heap_setCell_same w2 x 0 _ 33 _ hx2]; rfl
  · have e : heads (upd r j b) n (j + 1) = heads r n j ++ [.slice (some ⟨b, 0, none⟩) n n] := by
      rw [heads_succ, upd_same, heads_congr (r' := r) (fun t ht => upd_other _ _ (by omega))]
    rw [e]
    refine own_keep2 hown fun k hk => Below.heap_setCell _ _ _ _ ?_
    obtain ⟨_, cur, hc⟩ := own_block hown hk
    intro e
    have e : k = x := e
    rw [e, hx2] at hc
    simp at hc
  · intro t ht
    by_cases e : t = j
    · subst e
      rw [upd_same]
      exact ⟨(hk3 _ _ hb).trans hb, hbb⟩
    · rw [upd_other _ _ e]
      have := h.row t (by omega)
      exact ⟨(hk3 _ _ this.1).trans this.1, this.2⟩
  · intro t t' ht ht' heq
    by_cases e : t = j <;> by_cases e' : t' = j
    · omega
    · subst e
      rw [upd_same, upd_other _ _ e'] at heq
      exact absurd heq.symm (hnew t' (by omega))
    · subst e'
      rw [upd_same, upd_other _ _ e] at heq
      exact absurd heq (hnew t (by omega))
    · rw [upd_other _ _ e, upd_other _ _ e'] at heq
      exact h.inj t t' (by omega) (by omega) heq

def RefMaking (w wr : World) (x n j : Nat) : Prop := Below w.heap.size w wr ∧ ∃ v r, RefRow wr w.heap.size x n j v r (fun _ _ => 0)
def NewRef (n : Nat) (w : World) (e : Ending) (w' : World) : Prop := ∃ x, e = .returned (.tuple #[.pointer (some ⟨x, 0, none⟩), .int .i64 0]) ∧ Below w.heap.size w w' ∧ RefIs w' w.heap.size x n (fun _ _ => 0)
theorem ref_start (w : World) (n : Nat) (hn : n ≤ 300) : RefMaking w (w.alloc (.cells #[.slice none 0 0] 33)) w.heap.size n 0 :=
  ⟨(Below.refl _ _).alloc (Nat.le_refl _) _, .slice none 0 0, fun _ => 0, heap_alloc_new w _, Nat.le_refl _, World.ownsRow_nil _ _ _ _, fun j hj => absurd hj (by omega), fun j j' hj => absurd hj (by omega), hn⟩
theorem made_row (n : Nat) : madeCells #[Value.int .i64 0] n = rowV (fun _ => 0) n := by
  apply Array.ext
  · simp [size_madeCells, rowV]
  · intro i h1 h2
    simp [madeCells, rowV, Nat.mod_one]

theorem alloc2 (w : World) (X Y : Obj) : ((w.alloc X).alloc Y).heap[w.heap.size + 1]? = some Y := by
  have := heap_alloc_new (w.alloc X) Y
  simpa using this
theorem alloc2_fst (w : World) (X Y : Obj) : ((w.alloc X).alloc Y).heap[w.heap.size]? = some X := by
  rw [Below.heap_alloc _ _ _ (by simp)]
  exact heap_alloc_new w X
theorem alloc2_old (w : World) (X Y : Obj) (k : Nat) (h : k < w.heap.size) : ((w.alloc X).alloc Y).heap[k]? = w.heap[k]? := by
  rw [Below.heap_alloc _ _ _ (by simp; omega), Below.heap_alloc _ _ _ h]
theorem news2 (w : World) (X : Obj) (u : Value) (T : Nat) : ∀ j v, [u][j]? = some v → ((w.alloc X).alloc (.cells #[u] T)).drew.cell? ((⟨w.heap.size + 1, 0, none⟩ : Addr).add j) = some v :=
  World.news_of_block (w := ((w.alloc X).alloc (.cells #[u] T)).drew) (cs := #[u]) (alloc2 w X _)
section
variable {w wr w2 : World} {n j : Nat} {v : Value} {r : Nat → Nat} {X Y : Obj}
theorem ref_grow (hgrow : ((wr.alloc X).alloc Y).drew.grownBy w2 v.ownBlock) : ∀ k, k < wr.heap.size → some k ≠ v.ownBlock → w2.heap[k]? = wr.heap[k]? := fun k hk hne =>
  (hgrow.block k (by show k < ((wr.alloc X).alloc Y).heap.size; simp; omega) hne).trans (alloc2_old wr X Y k hk)
theorem ref_far {x : Nat} {L : Nat → Nat → Nat} (R : RefRow wr w.heap.size x n j v r L) (hgrow : ((wr.alloc X).alloc Y).drew.grownBy w2 v.ownBlock) : w2.heap[x]? = some (.cells #[v] 33 (0, 0)) :=
  (ref_grow hgrow x (lt_of_some R.hdr) fun e => by
    obtain ⟨_, cur, hc⟩ := own_block R.own e.symm
    rw [R.hdr] at hc
    simp at hc).trans R.hdr
theorem ref_cv2 {x : Nat} {L : Nat → Nat → Nat} (R : RefRow wr w.heap.size x n j v r L) (hgrow : ((wr.alloc X).alloc Y).drew.grownBy w2 v.ownBlock) : w2.cell? ⟨x, 0, none⟩ = some v := by
  rw [cell_of_row w2 x 0 _ _ _ (ref_far R hgrow)]; rfl
theorem ref_fr2 {x : Nat} {L : Nat → Nat → Nat} (R : RefRow wr w.heap.size x n j v r L) (hgrow : ((wr.alloc X).alloc Y).drew.grownBy w2 v.ownBlock) : w2.frozen? ⟨x, 0, none⟩ = false :=
  frozen_of_row w2 x 0 _ _ (ref_far R hgrow)
theorem ref_making_step {gg cap T : Nat} {u : Value} (hb : Below w.heap.size w wr) (R : RefRow wr w.heap.size w.heap.size n j v r (fun _ _ => 0))
    (ho : w2.ownsRow w.heap.size 27 1 (.slice (some ⟨gg, 0, none⟩) (j + 1) cap) (j + 1) (heads r n j ++ [.slice (some ⟨wr.heap.size, 0, none⟩) n n]))
    (hgrow : ((wr.alloc (.cells (rowV (fun _ => 0) n) 3)).alloc (.cells #[u] T)).drew.grownBy w2 v.ownBlock) :
    RefMaking w (w2.setCell ⟨w.heap.size, 0, none⟩ (.slice (some ⟨gg, 0, none⟩) (j + 1) cap)) w.heap.size n (j + 1) := by
  have hs := hb.size
  have R1 : RefRow (((wr.alloc (.cells (rowV (fun _ => 0) n) 3)).alloc (.cells #[u] T)).drew) w.heap.size w.heap.size n j v r (fun _ _ => 0) := R.keep fun k c T' hk _ => alloc2_old wr _ _ k (lt_of_some hk)
  refine ⟨?_, _, _, R1.step (b := wr.heap.size) (alloc2_fst wr _ _) hs (fun t ht e => ?_) ho (fun k hk hne => hgrow.block k hk hne)⟩
  · have b2 : Below w.heap.size w (((wr.alloc (.cells (rowV (fun _ => 0) n) 3)).alloc (.cells #[u] T)).drew) := ((hb.alloc hs _).alloc (by simp; omega) _).drew
    exact (b2.grown hgrow (by show w.heap.size ≤ ((wr.alloc (.cells (rowV (fun _ => 0) n) 3)).alloc (.cells #[u] T)).heap.size; simp; omega) (fun k hk => (own_block R.own hk).1)).setCell (Nat.le_refl _) _
  · have := lt_of_some (R.row t ht).1
    omega
end

set_option maxHeartbeats 1000000 in
theorem ref_new (n : Nat) (w : World) (hn : n ≤ 300) : Calls Tryd.prog 19 #[.int .i64 n] w (NewRef n w) := by
  obtain ⟨i0, hi0, hz0, hz1, hz2⟩ := info_parts Tryd.info27
  obtain ⟨i3, hi3, hy0, hy1, hy2⟩ := info_parts Tryd.info3
  have h0 : decide ((n : Int) < 0) = false := by simp
  have h1 : decide ((300 : Int) < (n : Int)) = false := by simp; omega
  have hmk : ∀ w, (Instr.makeSlice 27 (.int .i64 (n : Int)) (.int .i64 (n : Int))).run Tryd.prog w = .ok (.slice (some ⟨w.heap.size, 0, none⟩) n n) (w.alloc (.cells (rowV (fun _ => 0) n) 3)) := fun w => by
    have := run_make (P := Tryd.prog) w 27 3 i3 (.int .i64 0) Tryd.underlying27 hi3 hy0 .i64 .i64 (n : Int) (n : Int) (by omega) (by omega) (by rw [hy2]; omega) (by omega)
    rw [this, hy1]
    simp
    exact congrArg (fun c => w.alloc (.cells c 3)) (made_row n)
  go_enter Tryd.func19, Tryd.ntmps19
  go_wp2_with fail
  go_loopw [14] (fun u wr => ∃ j : Nat, j ≤ n ∧ u = .int .i64 j ∧ RefMaking w wr w.heap.size n j) (fun u _ => n - (intOf u).toNat)
  case atStart => exact ⟨0, by omega, rfl, ref_start w n hn⟩
  case round =>
    obtain ⟨j, hj, rfl, hm⟩ := hrel
    by_cases hlt : j < n
    · obtain ⟨hb, v, r, R⟩ := hm
      have cv : wr.cell? ⟨w.heap.size, 0, none⟩ = some v := by rw [cell_of_row wr _ 0 _ _ _ R.hdr]; rfl
      have fr : wr.frozen? ⟨w.heap.size, 0, none⟩ = false := frozen_of_row wr _ 0 _ _ R.hdr
      have hsz := lt_of_some R.hdr
      have A := Lib.hid (And.intro hb R)
      clear hb R
      go_wp2_with fail
      go_region_law (refine step_append_lies _ rfl (.tmp 20) (.tmp 23) 31 rfl w.heap.size 27 i0 (.slice none 0 0) 1 24 Tryd.underlying31 hi0 hz0 hz1 hz2 rfl (by decide) v j (heads r n j) (by simp [Act.eval, Act.put]) ((A.out.2.own.alloc _).alloc _) ⟨wr.heap.size + 1, 0, none⟩ 1 1 [.slice (some ⟨wr.heap.size, 0, none⟩) n n] (by simp [Act.eval, Act.put]) rfl (news2 _ _ _ _) (one_cell1 rfl) (by decide) (by unfold maxLen; omega) (by omega) (by simp; omega) _ rfl ?_; intro gg cap w2 ho hgrow hat hlt2; have cv2 := ref_cv2 A.out.2 hgrow; have fr2 := ref_fr2 A.out.2 hgrow; have B := Lib.hid (And.intro ho (And.intro hgrow hat)); clear ho hgrow hat hlt2)
      all_goals
        go_wp2
        go_roundw
        case rel => exact ⟨j + 1, by omega, by go_num, ref_making_step A.out.1 A.out.2 B.out.1 B.out.2.1⟩
        case measure => simp [intOf]; omega
    · obtain rfl : j = n := by omega
      obtain ⟨hb, v, r, R⟩ := hm
      have A := Lib.hid (And.intro hb R)
      clear hb R
      go_wp2
      go_ret2
      exact ⟨_, rfl, A.out.1, v, r, A.out.2⟩
end Go.Proofs.YtcfbcfcoigifiaaDoor
