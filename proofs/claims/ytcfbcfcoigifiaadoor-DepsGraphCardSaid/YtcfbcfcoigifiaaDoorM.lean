/- Plain laws on orders of a graph's nodes: no program is looked at here. -/
import Derived.Test.YtcfbcfcoigifiaaDoorL
set_option linter.unusedVariables false
set_option linter.unusedSimpArgs false
namespace Go.Proofs.YtcfbcfcoigifiaaDoor
open Go.RowKit

/-- No edge leads to k from a node that is not in l. -/
def freeOf (E : Nat → Nat → Bool) (n : Nat) (l : List Nat) (k : Nat) : Bool := (List.range n).all fun a => l.contains a || !E a k
def nxt (E : Nat → Nat → Bool) (n : Nat) (l : List Nat) : Option Nat := (List.range n).find? fun k => !l.contains k && freeOf E n l k
def ord (E : Nat → Nat → Bool) (n : Nat) : Nat → List Nat → Option (List Nat)
  | 0, l => some l
  | k + 1, l => match nxt E n l with
    | none => none
    | some x => ord E n k (l ++ [x])

def cntTo (E : Nat → Nat → Bool) (l : List Nat) (i m : Nat) : Nat := ((List.range i).filter fun a => !l.contains a && E a m).length
theorem cntTo_succ (E : Nat → Nat → Bool) (l : List Nat) (i m : Nat) : cntTo E l (i + 1) m = cntTo E l i m + (if !l.contains i && E i m then 1 else 0) := by
  unfold cntTo
  rw [List.range_succ, List.filter_append, List.length_append]
  congr 1
  rw [List.filter_cons]
  split <;> simp_all
theorem cntTo_zero {E : Nat → Nat → Bool} {l : List Nat} {n m : Nat} : cntTo E l n m = 0 ↔ freeOf E n l m = true := by
  unfold cntTo freeOf
  rw [List.length_eq_zero_iff, List.filter_eq_nil_iff, List.all_eq_true]
  constructor
  · intro h a ha
    have := h a ha
    cases hc : l.contains a <;> cases he : E a m <;> simp_all
  · intro h a ha
    have := h a ha
    cases hc : l.contains a <;> cases he : E a m <;> simp_all
theorem cntTo_app {E : Nat → Nat → Bool} {l : List Nat} {x : Nat} (hx : l.contains x = false) (m : Nat) : ∀ i, cntTo E l i m = cntTo E (l ++ [x]) i m + (if x < i ∧ E x m = true then 1 else 0)
  | 0 => by simp [cntTo]
  | i + 1 => by
    rw [cntTo_succ, cntTo_succ, cntTo_app hx m i]
    by_cases e : i = x
    · subst e
      have h1 : (l ++ [i]).contains i = true := by simp
      rw [h1, hx, if_neg (by omega)]
      cases he : E i m <;> simp
    · have h1 : (l ++ [x]).contains i = l.contains i := by
        simp [List.contains_eq_any_beq, List.any_append, e]
      rw [h1]
      by_cases h2 : x < i
      · have h3 : x < i + 1 := by omega
        simp only [h2, h3, true_and]
        omega
      · have h3 : ¬ x < i + 1 := by omega
        simp only [h2, h3, false_and, if_false]
        omega

/-- What is counted ahead of each node, those of l being struck. -/
def Ahead (E : Nat → Nat → Bool) (n : Nat) (l : List Nat) (f : Nat → Int) : Prop := ∀ m, m < n → f m = if l.contains m then -1 else (cntTo E l n m : Int)
/-- The nodes of l, in their order, are a beginning. -/
structure Run (E : Nat → Nat → Bool) (n : Nat) (l : List Nat) : Prop where
  len : l.length ≤ n
  lt : ∀ m, m ∈ l → m < n
  closed : ∀ m, m ∈ l → ∀ a, a < n → l.contains a = false → E a m = false
  rest : ord E n (n - l.length) l = ord E n n []
theorem Run.nil (E : Nat → Nat → Bool) (n : Nat) : Run E n [] := ⟨Nat.zero_le _, fun m h => by simp at h, fun m h => by simp at h, rfl⟩
theorem nxt_some {E : Nat → Nat → Bool} {n x : Nat} {l : List Nat} (h : nxt E n l = some x) : x < n ∧ l.contains x = false ∧ freeOf E n l x = true := by
  have h1 := List.find?_some h
  have h2 := List.mem_of_find?_eq_some h
  simp only [Bool.and_eq_true, Bool.not_eq_true'] at h1
  exact ⟨List.mem_range.1 h2, h1.1, h1.2⟩
theorem Run.next {E : Nat → Nat → Bool} {n x : Nat} {l : List Nat} (h : Run E n l) (hl : l.length < n) (hx : nxt E n l = some x) : Run E n (l ++ [x]) := by
  obtain ⟨h1, h2, h3⟩ := nxt_some hx
  refine ⟨by simp; omega, fun m hm => ?_, fun m hm a ha hc => ?_, ?_⟩
  · rcases List.mem_append.1 hm with hm | hm
    · exact h.lt m hm
    · rw [List.mem_singleton.1 hm]; exact h1
  · have hc' : l.contains a = false := by
      cases e : l.contains a
      · rfl
      · rw [List.contains_iff_mem] at e
        have : (l ++ [x]).contains a = true := by simp [e]
        rw [this] at hc
        cases hc
    rcases List.mem_append.1 hm with hm | hm
    · exact h.closed m hm a ha hc'
    · rw [List.mem_singleton.1 hm]
      have := List.all_eq_true.1 h3 a (List.mem_range.2 ha)
      rw [hc'] at this
      simpa using this
  · rw [← h.rest]
    obtain ⟨k, hk⟩ : ∃ k, n - l.length = k + 1 := ⟨n - l.length - 1, by omega⟩
    rw [hk, ord, hx]
    congr 1
    simp
    omega
theorem Run.stop {E : Nat → Nat → Bool} {n : Nat} {l : List Nat} (h : Run E n l) (hl : l.length < n) (hx : nxt E n l = none) : ord E n n [] = none := by
  rw [← h.rest]
  obtain ⟨k, hk⟩ : ∃ k, n - l.length = k + 1 := ⟨n - l.length - 1, by omega⟩
  rw [hk, ord, hx]
theorem Run.done {E : Nat → Nat → Bool} {n : Nat} {l : List Nat} (h : Run E n l) (hl : l.length = n) : ord E n n [] = some l := by
  rw [← h.rest, hl, Nat.sub_self, ord]
theorem ahead_find {E : Nat → Nat → Bool} {n : Nat} {l : List Nat} {f : Nat → Int} (h : Ahead E n l f) : (List.range n).find? (fun k => f k == 0) = nxt E n l := by
  unfold nxt
  have key : ∀ k, k ∈ List.range n → (f k == 0) = (!l.contains k && freeOf E n l k) := by
    intro k hk
    rw [h k (List.mem_range.1 hk)]
    cases hc : l.contains k
    · have := @cntTo_zero E l n k
      cases hf : freeOf E n l k
      · rw [hf] at this
        simp only [Bool.false_eq_true, iff_false] at this
        simp
        omega
      · have := this.2 hf
        simp [this]
    · simp
  generalize List.range n = r at key
  induction r with
  | nil => rfl
  | cons a r ih =>
    rw [List.find?_cons, List.find?_cons, key a (by simp), ih fun k hk => key k (by simp [hk])]
/-- The node is struck, then those that its edges lead to are counted down. -/
theorem Ahead.next {E : Nat → Nat → Bool} {n x : Nat} {l : List Nat} {f g : Nat → Int} (h : Ahead E n l f) (hr : Run E n l) (hx : nxt E n l = some x)
    (hg : ∀ m, m < n → g m = (if m = x then -1 else f m) - (if E x m then 1 else 0)) : Ahead E n (l ++ [x]) g := by
  obtain ⟨h1, h2, h3⟩ := nxt_some hx
  have hxx : E x x = false := by
    have := List.all_eq_true.1 h3 x (List.mem_range.2 h1)
    rw [h2] at this
    simpa using this
  intro m hm
  rw [hg m hm]
  by_cases e : m = x
  · subst e
    simp [hxx]
  · rw [if_neg e, h m hm]
    have hc : (l ++ [x]).contains m = l.contains m := by simp [List.contains_eq_any_beq, List.any_append, e]
    rw [hc]
    cases hl : l.contains m
    · have := cntTo_app (E := E) h2 m n
      rw [this]
      cases he : E x m
      · simp
      · simp [h1]
    · have := hr.closed m (by simpa using hl) x h1 h2
      simp [this]
end Go.Proofs.YtcfbcfcoigifiaaDoor
