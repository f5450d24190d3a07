/- Graphs in memory: rows of sets, by labels; a new one, without edges. -/
import Derived.Test.YtcfbcfcoigifiaaDoorE
import Derived.Deep.AppendLies
import Derived.Deep.RegionLaw
set_option linter.unusedVariables false
set_option linter.unusedSimpArgs false
namespace Go.Proofs.YtcfbcfcoigifiaaDoor
open Go.RowKit

theorem Tryd.info69 : (Tryd.prog.info? 69).map (fun i => (i.zero, i.size, i.bytes)) = some (some (.pointer none), 1, 8) := by kernel_rfl

def ptrs (p : Nat → Nat) (n : Nat) : List Value := (List.range n).map fun j => .pointer (some ⟨p j, 0, none⟩)
theorem ptrs_length (p : Nat → Nat) (n : Nat) : (ptrs p n).length = n := by simp [ptrs]
theorem ptrs_at (p : Nat → Nat) (n j : Nat) (h : j < n) : (ptrs p n)[j]? = some (.pointer (some ⟨p j, 0, none⟩)) := by
  simp [ptrs, List.getElem?_range h]
theorem ptrs_succ (p : Nat → Nat) (n : Nat) : ptrs p (n + 1) = ptrs p n ++ [.pointer (some ⟨p n, 0, none⟩)] := by simp [ptrs, List.range_succ]
theorem ptrs_congr {p p' : Nat → Nat} {n : Nat} (h : ∀ j, j < n → p j = p' j) : ptrs p n = ptrs p' n := by
  unfold ptrs
  apply List.map_congr_left
  intro j hj
  rw [h j (List.mem_range.1 hj)]

/-- A graph at block g, of which row i holds cnt i sets. -/
structure GrRow (w : World) (base g n : Nat) (cnt : Nat → Nat) (v : Nat → Value) (p q : Nat → Nat → Nat) (M : Nat → Nat → Nat → Bool) : Prop where
  hdr : w.heap[g]? = some (.cells #[.int .i64 n, v 0, v 1, v 2, v 3, .bool true] 68 (0, 0))
  gb : base ≤ g
  n_le : n ≤ 300
  rows : ∀ i, i < 4 → w.ownsRow base 69 1 (v i) (cnt i) (ptrs (p i) (cnt i))
  sets : ∀ i, i < 4 → ∀ j, j < cnt i → SetIs w (p i j) (q i j) n (M i j) ∧ base ≤ q i j
  inj : ∀ i j i' j', i < 4 → j < cnt i → i' < 4 → j' < cnt i' → q i j = q i' j' → i = i' ∧ j = j'
  apart : ∀ i i', i < 4 → i' < 4 → i ≠ i' → ∀ k, (v i).ownBlock = some k → (v i').ownBlock ≠ some k

theorem own_block {w : World} {base e size n k : Nat} {v : Value} {xs : List Value} (h : w.ownsRow base e size v n xs) (hk : v.ownBlock = some k) : base ≤ k ∧ ∃ cur, w.heap[k]? = some (.cells cur e (0, 0)) := by
  rcases h.2 with ⟨rfl, _⟩ | ⟨g, cap, cur, rfl, hb, hg, _⟩
  · simp [Value.ownBlock] at hk
  · have : g = k := by simpa [Value.ownBlock] using hk
    subst this
    exact ⟨hb, cur, hg⟩
theorem own_keep2 {w w' : World} {base e size n : Nat} {v : Value} {xs : List Value} (h : w.ownsRow base e size v n xs) (hb : ∀ k, v.ownBlock = some k → w'.heap[k]? = w.heap[k]?) : w'.ownsRow base e size v n xs :=
  own_keep h fun g c e _ => hb g (by rw [e]; rfl)

theorem SetIs.keep {w w' : World} {p q n : Nat} {S : Nat → Bool} (h : SetIs w p q n S) (hb : ∀ (k : Nat) (c : Array Value) (T : Nat), w.heap[k]? = some (Obj.cells c T (0, 0)) → T = 79 ∨ T = 81 → w'.heap[k]? = w.heap[k]?) : SetIs w' p q n S := by
  obtain ⟨ws, h1, h2⟩ := h
  exact ⟨ws, h1.keep (hb _ _ _ h1.hdr (.inl rfl)) (hb _ _ _ h1.row (.inr rfl)), h2⟩

theorem GrRow.keep {w w' : World} {base g n : Nat} {cnt : Nat → Nat} {v : Nat → Value} {p q : Nat → Nat → Nat} {M : Nat → Nat → Nat → Bool} (h : GrRow w base g n cnt v p q M)
    (hb : ∀ (k : Nat) (c : Array Value) (T : Nat), w.heap[k]? = some (Obj.cells c T (0, 0)) → T = 68 ∨ T = 69 ∨ T = 79 ∨ T = 81 → w'.heap[k]? = w.heap[k]?) : GrRow w' base g n cnt v p q M :=
  ⟨(hb _ _ _ h.hdr (.inl rfl)).trans h.hdr, h.gb, h.n_le,
    fun i hi => own_keep (h.rows i hi) fun k _ _ ⟨cur, hk⟩ => hb k _ _ hk (.inr (.inl rfl)),
    fun i hi j hj => ⟨(h.sets i hi j hj).1.keep fun k c T hk hT => hb k c T hk (.inr (.inr hT)), (h.sets i hi j hj).2⟩, h.inj, h.apart⟩

def cntOf (n i j : Nat) : Nat → Nat := fun t => if t < i then n else if t = i then j else 0
theorem cnt_next (n i : Nat) : cntOf n i n = cntOf n (i + 1) 0 := by
  funext t
  unfold cntOf
  by_cases h : t < i
  · rw [if_pos h, if_pos (by omega)]
  · by_cases e : t = i
    · rw [if_neg h, if_pos e, if_pos (by omega)]
    · rw [if_neg h, if_neg e, if_neg (by omega)]
      split <;> rfl
theorem cnt_start (n : Nat) : cntOf n 0 0 = fun _ => 0 := by
  funext t
  simp [cntOf]
theorem cnt_end (n i : Nat) (h : i < 4) : cntOf n 4 0 i = n := by simp [cntOf, h]

def upd {α : Type} (f : Nat → α) (i : Nat) (x : α) : Nat → α := fun t => if t = i then x else f t
theorem upd_same {α : Type} (f : Nat → α) (i : Nat) (x : α) : upd f i x i = x := by simp [upd]
theorem upd_other {α : Type} (f : Nat → α) {i t : Nat} (x : α) (h : t ≠ i) : upd f i x t = f t := by simp [upd, h]

theorem hdr_set (n : Int) (v : Nat → Value) (i : Nat) (hi : i < 4) (x : Value) :
    (#[Value.int .i64 n, v 0, v 1, v 2, v 3, .bool true] : Array Value).setIfInBounds (1 + i) x = #[Value.int .i64 n, upd v i x 0, upd v i x 1, upd v i x 2, upd v i x 3, .bool true] := by
  match i, hi with
  | 0, _ => rfl
  | 1, _ => rfl
  | 2, _ => rfl
  | 3, _ => rfl
theorem hdr_at (n : Int) (v : Nat → Value) (i : Nat) (hi : i < 4) : (#[Value.int .i64 n, v 0, v 1, v 2, v 3, .bool true] : Array Value)[1 + i]? = some (v i) := by
  match i, hi with
  | 0, _ => rfl
  | 1, _ => rfl
  | 2, _ => rfl
  | 3, _ => rfl

section
variable {w : World} {base g n : Nat} {cnt : Nat → Nat} {v : Nat → Value} {p q : Nat → Nat → Nat} {M : Nat → Nat → Nat → Bool}
theorem GrRow.cn (h : GrRow w base g n cnt v p q M) : w.cell? ⟨g, 0, none⟩ = some (.int .i64 n) := by rw [cell_of_row w g 0 _ _ _ h.hdr]; rfl
theorem GrRow.cv (h : GrRow w base g n cnt v p q M) (i : Nat) (hi : i < 4) : w.cell? ⟨g, 1 + i, none⟩ = some (v i) := by rw [cell_of_row w g (1 + i) _ _ _ h.hdr]; exact hdr_at _ _ _ hi
theorem GrRow.cm (h : GrRow w base g n cnt v p q M) : w.cell? ⟨g, 5, none⟩ = some (.bool true) := by rw [cell_of_row w g 5 _ _ _ h.hdr]; rfl
theorem GrRow.fr (h : GrRow w base g n cnt v p q M) (i : Nat) : w.frozen? ⟨g, i, none⟩ = false := frozen_of_row w g i _ _ h.hdr
end

/-- One set more in row i. -/
theorem GrRow.step {w w2 : World} {base g n i j p' q' gg cap H W0 : Nat} {v : Nat → Value} {p q : Nat → Nat → Nat}
    (h : GrRow w base g n (cntOf n i j) v p q (fun _ _ _ => false)) (hi : i < 4) (hj : j < n) (hS : SetIs w p' q' n (fun _ => false)) (hq' : base ≤ q')
    (hW : ∀ a b, a < 4 → b < cntOf n i j a → q a b < W0) (hW' : W0 ≤ q')
    (hown : w2.ownsRow base 69 1 (.slice (some ⟨gg, 0, none⟩) (j + 1) cap) (j + 1) (ptrs (p i) j ++ [.pointer (some ⟨p', 0, none⟩)]))
    (hgrow : ∀ k, k < w.heap.size → some k ≠ (v i).ownBlock → w2.heap[k]? = w.heap[k]?) (hat : (v i).ownBlock = some gg ∨ w.heap.size ≤ gg) :
    GrRow (w2.setCell ⟨g, 1 + i, none⟩ (.slice (some ⟨gg, 0, none⟩) (j + 1) cap)) base g n (cntOf n i (j + 1)) (upd v i (.slice (some ⟨gg, 0, none⟩) (j + 1) cap)) (upd p i (upd (p i) j p')) (upd q i (upd (q i) j q')) (fun _ _ _ => false) := by
  have hci : cntOf n i j i = j := by simp [cntOf]
  have hrow := h.rows i hi
  rw [hci] at hrow
  have hblk : ∀ k, (v i).ownBlock = some k → ∃ cur, w.heap[k]? = some (.cells cur 69 (0, 0)) := fun k hk => (own_block hrow hk).2
  have hkeep : ∀ (k : Nat) (c : Array Value) (T : Nat), w.heap[k]? = some (Obj.cells c T (0, 0)) → T ≠ 69 → w2.heap[k]? = w.heap[k]? := fun k c T hk hT => hgrow k (lt_of_some hk) fun e => by
    obtain ⟨cur, hc⟩ := hblk k e.symm
    rw [hk] at hc
    injection hc with hc
    injection hc with _ hc
    exact hT hc
  have hg2 : w2.heap[g]? = some (.cells #[.int .i64 n, v 0, v 1, v 2, v 3, .bool true] 68 (0, 0)) := (hkeep g _ _ h.hdr (by decide)).trans h.hdr
  have hkeep3 : ∀ (k : Nat) (c : Array Value) (T : Nat), w.heap[k]? = some (Obj.cells c T (0, 0)) → T ≠ 69 → T ≠ 68 → (w2.setCell ⟨g, 1 + i, none⟩ (.slice (some ⟨gg, 0, none⟩) (j + 1) cap)).heap[k]? = w.heap[k]? := fun k c T hk h1 h2 => by
    rw [Below.heap_setCell _ _ _ _ (fun e => by
      have e : k = g := e
      rw [e, h.hdr] at hk
      injection hk with hk
      injection hk with _ hk
      exact h2 hk.symm)]
    exact hkeep k c T hk h1
  refine ⟨?_, h.gb, h.n_le, ?_, ?_, ?_, ?_⟩
  · rw [heap_setCell_same w2 g (1 + i) _ 68 _ hg2, hdr_set _ _ _ hi]
  · intro t ht
    by_cases e : t = i
    · subst e
      rw [upd_same, upd_same]
      have hc : cntOf n t (j + 1) t = j + 1 := by simp [cntOf]
      rw [hc, ptrs_succ, upd_same, ptrs_congr (p' := p t) (fun b hb => upd_other _ _ (by omega))]
      refine own_keep2 hown fun k hk => Below.heap_setCell _ _ _ _ ?_
      obtain ⟨_, cur, hc⟩ := own_block hown hk
      intro e
      have e : k = g := e
      rw [e, hg2] at hc
      simp at hc
    · rw [upd_other _ _ e, upd_other _ _ e]
      have hc : cntOf n i (j + 1) t = cntOf n i j t := by simp [cntOf, e]
      rw [hc]
      refine own_keep2 (h.rows t ht) fun k hk => ?_
      obtain ⟨_, cur, hc⟩ := own_block (h.rows t ht) hk
      rw [Below.heap_setCell _ _ _ _ (fun e => by
        have e : k = g := e
        rw [e, h.hdr] at hc
        simp at hc)]
      exact hgrow k (lt_of_some hc) fun e2 => h.apart t i ht hi e k hk e2.symm
  · intro a ha b hb
    by_cases e : a = i
    · subst e
      rw [upd_same, upd_same]
      by_cases e2 : b = j
      · subst e2
        rw [upd_same, upd_same]
        exact ⟨hS.keep fun k c T hk hT => hkeep3 k c T hk (by omega) (by omega), hq'⟩
      · rw [upd_other _ _ e2, upd_other _ _ e2]
        have hb' : b < cntOf n a j a := by simp [cntOf] at hb ⊢; omega
        exact ⟨(h.sets a ha b hb').1.keep fun k c T hk hT => hkeep3 k c T hk (by omega) (by omega), (h.sets a ha b hb').2⟩
    · rw [upd_other _ _ e, upd_other _ _ e]
      have hb' : b < cntOf n i j a := by simpa [cntOf, e] using hb
      exact ⟨(h.sets a ha b hb').1.keep fun k c T hk hT => hkeep3 k c T hk (by omega) (by omega), (h.sets a ha b hb').2⟩
  · have old : ∀ a b, a < 4 → b < cntOf n i (j + 1) a → (a = i ∧ b = j) ∨ (b < cntOf n i j a ∧ upd q i (upd (q i) j q') a b = q a b) := by
      intro a b ha hb
      by_cases e : a = i
      · subst e
        by_cases e2 : b = j
        · exact .inl ⟨rfl, e2⟩
        · refine .inr ⟨by simp [cntOf] at hb ⊢; omega, ?_⟩
          rw [upd_same, upd_other _ _ e2]
      · exact .inr ⟨by simpa [cntOf, e] using hb, by rw [upd_other _ _ e]⟩
    intro a b a' b' ha hb ha' hb' heq
    rcases old a b ha hb with ⟨rfl, rfl⟩ | ⟨h1, h2⟩ <;> rcases old a' b' ha' hb' with ⟨h3, h4⟩ | ⟨h3, h4⟩
    · exact ⟨h3.symm, h4.symm⟩
    · rw [upd_same, upd_same, h4] at heq
      have := hW a' b' ha' h3
      omega
    · subst h3; subst h4
      rw [upd_same, upd_same, h2] at heq
      have := hW a b ha h1
      omega
    · rw [h2, h4] at heq
      exact h.inj a b a' b' ha h1 ha' h3 heq
  · intro a b ha hb hab k hk hk'
    by_cases ea : a = i
    · subst ea
      rw [upd_same] at hk
      rw [upd_other _ _ (fun e => hab e.symm)] at hk'
      have hk : gg = k := by simpa [Value.ownBlock] using hk
      subst hk
      rcases hat with hat | hat
      · exact h.apart a b ha hb hab gg hat hk'
      · obtain ⟨_, cur, hc⟩ := own_block (h.rows b hb) hk'
        have := lt_of_some hc
        omega
    · rw [upd_other _ _ ea] at hk
      by_cases eb : b = i
      · subst eb
        rw [upd_same] at hk'
        have hk' : gg = k := by simpa [Value.ownBlock] using hk'
        subst hk'
        rcases hat with hat | hat
        · exact h.apart a b ha hb hab gg hk hat
        · obtain ⟨_, cur, hc⟩ := own_block (h.rows a ha) hk
          have := lt_of_some hc
          omega
      · rw [upd_other _ _ eb] at hk'
        exact h.apart a b ha hb hab k hk hk'
end Go.Proofs.YtcfbcfcoigifiaaDoor
