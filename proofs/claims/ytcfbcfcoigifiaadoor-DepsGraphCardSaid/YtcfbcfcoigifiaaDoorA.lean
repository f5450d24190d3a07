/- Words for sets of small numbers and for graphs in memory, and plain lemmas on words of bits: no program is looked at here. -/
import Derived.WalkKit
import Derived.Lib.TrailingZeros
import Derived.Laws.Bits64b
import Derived.Laws.BitsAllLaws
import Derived.Deep.Draws
set_option linter.unusedVariables false
set_option linter.unusedSimpArgs false
namespace Go.Proofs.YtcfbcfcoigifiaaDoor
open Go.RowKit

/-- From block 'base' on, blocks of the element type T alone may have turned; blocks below 'base' have not. -/
structure Ty (base T : Nat) (w w' : World) : Prop where
  os : w'.os = w.os
  tape : w'.tape = w.tape
  output : w'.output = w.output
  size : w.heap.size ≤ w'.heap.size
  block : ∀ k, k < w.heap.size → (k < base ∨ ∀ c, w.heap[k]? ≠ some (.cells c T (0, 0))) → w'.heap[k]? = w.heap[k]?

theorem lt_of_some {w : World} {k : Nat} {o : Obj} (h : w.heap[k]? = some o) : k < w.heap.size := (Array.getElem?_eq_some_iff.1 h).1

theorem Ty.refl (base T : Nat) (w : World) : Ty base T w w := ⟨rfl, rfl, rfl, Nat.le_refl _, fun _ _ _ => rfl⟩
theorem Ty.trans {base T : Nat} {a b c : World} (h : Ty base T a b) (k : Ty base T b c) : Ty base T a c := by
  refine ⟨k.os.trans h.os, k.tape.trans h.tape, k.output.trans h.output, Nat.le_trans h.size k.size, fun i hi hc => ?_⟩
  have e := h.block i hi hc
  rw [← e]
  exact k.block i (Nat.lt_of_lt_of_le hi h.size) (by rw [e]; exact hc)
theorem Ty.of_below {base T : Nat} {w w' : World} (h : Below w.heap.size w w') : Ty base T w w' := ⟨h.os, h.tape, h.output, h.size, fun k hk _ => h.block k hk⟩
theorem Ty.below {base T : Nat} {w w' : World} (h : Ty base T w w') (hb : base ≤ w.heap.size) : Below base w w' := ⟨h.os, h.tape, h.output, h.size, fun k hk => h.block k (by omega) (.inl hk)⟩
theorem Ty.keep {base T : Nat} {w w' : World} (h : Ty base T w w') {k : Nat} {c : Array Value} {T' : Nat} {m : Nat × Nat} (hk : w.heap[k]? = some (.cells c T' m)) (hne : T' ≠ T) : w'.heap[k]? = some (.cells c T' m) := by
  rw [h.block k (lt_of_some hk) (.inr fun c' he => by rw [hk] at he; injection he with he; injection he with _ h2; exact hne h2)]
  exact hk
theorem Ty.keep_map {base T : Nat} {w w' : World} (h : Ty base T w w') {k : Nat} {o : Obj} (hk : w.heap[k]? = some o) (hne : ∀ c T' m, o ≠ .cells c T' m) : w'.heap[k]? = some o := by
  rw [h.block k (lt_of_some hk) (.inr fun c' he => by rw [hk] at he; injection he with he; exact hne _ _ _ he)]
  exact hk
theorem Ty.mono {base base' T : Nat} {w w' : World} (h : Ty base T w w') (hb : base' ≤ base) : Ty base' T w w' :=
  ⟨h.os, h.tape, h.output, h.size, fun k hk hc => h.block k hk (hc.imp (fun h => by omega) id)⟩

theorem below_drewN' {B : Nat} {w W : World} (h : Below B w W) (n : Nat) : Below B w (W.drewN n) := ⟨h.os, h.tape, h.output, h.size, h.block⟩
theorem below_then' {w w1 w2 : World} (h : Below w.heap.size w w1) (k : Below w1.heap.size w1 w2) : Below w.heap.size w w2 :=
  h.trans ⟨k.os, k.tape, k.output, k.size, fun i hi => k.block i (Nat.lt_of_lt_of_le hi h.size)⟩
theorem below_keep {w w' : World} (h : Below w.heap.size w w') {k : Nat} {o : Obj} (hk : w.heap[k]? = some o) : w'.heap[k]? = some o := (h.block k (lt_of_some hk)).trans hk

/-- What is owned stays owned where its block stays. -/
theorem own_keep {w w' : World} {base e size n : Nat} {v : Value} {xs : List Value} (h : w.ownsRow base e size v n xs) (hb : ∀ g c, v = .slice (some ⟨g, 0, none⟩) n c → (∃ cur, w.heap[g]? = some (.cells cur e (0, 0))) → w'.heap[g]? = w.heap[g]?) : w'.ownsRow base e size v n xs := by
  refine ⟨h.1, ?_⟩
  rcases h.2 with h2 | ⟨g, cap, cur, rfl, hg, hh, r⟩
  · exact .inl h2
  · exact .inr ⟨g, cap, cur, rfl, hg, by rw [hb g cap rfl ⟨cur, hh⟩]; exact hh, r⟩
theorem own_below' {w w' : World} {base e size n : Nat} {v : Value} {xs : List Value} (h : w.ownsRow base e size v n xs) (hb : Below w.heap.size w w') : w'.ownsRow base e size v n xs :=
  own_keep h fun g _ _ ⟨_, hg⟩ => hb.block g (lt_of_some hg)
theorem own_ty {w w' : World} {base e size n b T : Nat} {v : Value} {xs : List Value} (h : w.ownsRow base e size v n xs) (hb : Ty b T w w') (hne : e ≠ T) : w'.ownsRow base e size v n xs :=
  own_keep h fun g _ _ ⟨_, hg⟩ => (hb.keep hg hne).trans hg.symm

/-! ### Words of bits -/
def u64s (ws : List Nat) : List Value := ws.map fun (x : Nat) => .int .u64 (x : Int)
def bitAt (ws : List Nat) (i : Nat) : Bool := (ws.getD (i / 64) 0).testBit (i % 64)

theorem bitAt_zero (k i : Nat) : bitAt (List.replicate k 0) i = false := by
  unfold bitAt
  have : (List.replicate k 0).getD (i / 64) 0 = 0 := by
    rw [List.getD_eq_getElem?_getD, List.getElem?_replicate]; split <;> rfl
  rw [this]; exact Nat.zero_testBit _
theorem bitAt_out (ws : List Nat) (i : Nat) (h : ws.length ≤ i / 64) : bitAt ws i = false := by
  unfold bitAt
  rw [List.getD_eq_getElem?_getD, List.getElem?_eq_none h]; exact Nat.zero_testBit _
theorem bitAt_set (ws : List Nat) (i j : Nat) (hi : i / 64 < ws.length) :
    bitAt (ws.set (i / 64) (ws.getD (i / 64) 0 ||| 2 ^ (i % 64))) j = (bitAt ws j || decide (j = i)) := by
  unfold bitAt
  by_cases h : j / 64 = i / 64
  · rw [h, List.getD_eq_getElem?_getD, List.getElem?_set_self hi, Option.getD_some, Nat.testBit_or, Nat.testBit_two_pow]
    congr 1
    by_cases e : j = i
    · subst e; simp
    · simp [e]; omega
  · have e : ¬ j = i := fun e => h (by rw [e])
    rw [List.getD_eq_getElem?_getD, List.getElem?_set_ne (fun e => h e.symm), ← List.getD_eq_getElem?_getD]
    simp [e]
theorem bitAt_or (ws us : List Nat) (hl : us.length = ws.length) (j : Nat) : bitAt (List.zipWith (· ||| ·) ws us) j = (bitAt ws j || bitAt us j) := by
  unfold bitAt
  simp only [List.getD_eq_getElem?_getD, List.getElem?_zipWith]
  by_cases h : j / 64 < ws.length
  · rw [List.getElem?_eq_getElem h, List.getElem?_eq_getElem (by omega : j / 64 < us.length)]
    simp [Nat.testBit_or]
  · rw [List.getElem?_eq_none (by omega : ws.length ≤ j / 64), List.getElem?_eq_none (by omega : us.length ≤ j / 64)]
    simp

/-- The set at block p, its words at block q. -/
structure SetRow (w : World) (p q n : Nat) (ws : List Nat) : Prop where
  hdr : w.heap[p]? = some (.cells #[.slice (some ⟨q, 0, none⟩) ws.length ws.length, .int .i64 n, .bool true] 79 (0, 0))
  row : w.heap[q]? = some (.cells (u64s ws).toArray 81 (0, 0))
  len : ws.length = (n + 63) / 64
  n_le : n ≤ 4096
  lt : ∀ x ∈ ws, x < 18446744073709551616

theorem SetRow.keep {w w' : World} {p q n : Nat} {ws : List Nat} (h : SetRow w p q n ws) (hp : w'.heap[p]? = w.heap[p]?) (hq : w'.heap[q]? = w.heap[q]?) : SetRow w' p q n ws :=
  ⟨hp.trans h.hdr, hq.trans h.row, h.len, h.n_le, h.lt⟩
theorem SetRow.below {w w' : World} {p q n : Nat} {ws : List Nat} (h : SetRow w p q n ws) (hb : Below w.heap.size w w') : SetRow w' p q n ws :=
  h.keep (hb.block p (lt_of_some h.hdr)) (hb.block q (lt_of_some h.row))
theorem SetRow.c0 {w : World} {p q n : Nat} {ws : List Nat} (h : SetRow w p q n ws) : w.cell? ⟨p, 0, none⟩ = some (.slice (some ⟨q, 0, none⟩) ws.length ws.length) := by rw [cell_of_row w p 0 _ _ _ h.hdr]; rfl
theorem SetRow.c1 {w : World} {p q n : Nat} {ws : List Nat} (h : SetRow w p q n ws) : w.cell? ⟨p, 1, none⟩ = some (.int .i64 n) := by rw [cell_of_row w p 1 _ _ _ h.hdr]; rfl
theorem SetRow.c2 {w : World} {p q n : Nat} {ws : List Nat} (h : SetRow w p q n ws) : w.cell? ⟨p, 2, none⟩ = some (.bool true) := by rw [cell_of_row w p 2 _ _ _ h.hdr]; rfl
theorem SetRow.word {w : World} {p q n : Nat} {ws : List Nat} (h : SetRow w p q n ws) (i : Nat) (hi : i < ws.length) : w.cell? ⟨q, i, none⟩ = some (.int .u64 ((ws.getD i 0 : Nat) : Int)) := by
  rw [cell_of_row w q i _ _ _ h.row]
  simp [u64s, List.getD_eq_getElem?_getD, List.getElem?_eq_getElem hi]
theorem SetRow.free {w : World} {p q n : Nat} {ws : List Nat} (h : SetRow w p q n ws) (i : Nat) : w.frozen? ⟨q, i, none⟩ = false := frozen_of_row w q i _ _ h.row
theorem SetRow.ne {w : World} {p q p' q' n n' : Nat} {ws ws' : List Nat} (h : SetRow w p q n ws) (h' : SetRow w p' q' n' ws') : p ≠ q' := by
  rintro rfl
  have := h.hdr.symm.trans h'.row
  simp at this
theorem SetRow.wlt {w : World} {p q n : Nat} {ws : List Nat} (h : SetRow w p q n ws) (i : Nat) : ws.getD i 0 < 18446744073709551616 := by
  rw [List.getD_eq_getElem?_getD]
  by_cases hi : i < ws.length
  · rw [List.getElem?_eq_getElem hi]; exact h.lt _ (List.getElem_mem hi)
  · rw [List.getElem?_eq_none (by omega)]; simp
/-- A word written. -/
theorem SetRow.put {w : World} {p q n : Nat} {ws : List Nat} (h : SetRow w p q n ws) (i x : Nat) (hx : x < 18446744073709551616) : SetRow (w.setCell ⟨q, i, none⟩ (.int .u64 (x : Int))) p q n (ws.set i x) := by
  refine ⟨?_, ?_, by simpa using h.len, h.n_le, ?_⟩
  · rw [heap_setCell_other w _ p _ (by exact h.ne h), h.hdr]; simp
  · rw [heap_setCell_same w q i _ _ _ h.row]; simp [u64s]
  · intro y hy
    rcases List.mem_or_eq_of_mem_set hy with hy | rfl
    · exact h.lt y hy
    · exact hx
theorem SetRow.put_grown {w : World} {p q n : Nat} {ws : List Nat} (h : SetRow w p q n ws) (i : Nat) (u : Value) : w.grownBy (w.setCell ⟨q, i, none⟩ u) (some q) :=
  ⟨rfl, rfl, rfl, by simp [World.setCell], fun k hk hc => heap_setCell_other w _ k _ (fun e => hc (by rw [e]))⟩
theorem grown_drewN {w W : World} {row : Option Nat} (h : w.grownBy W row) (n : Nat) : w.grownBy (W.drewN n) row := ⟨h.os, h.tape, h.output, h.size, h.block⟩
theorem grown_below {w W : World} (h : Below w.heap.size w W) (row : Option Nat) : w.grownBy W row := ⟨h.os, h.tape, h.output, h.size, fun k hk _ => h.block k hk⟩
theorem grown_ty {w W : World} {base q T : Nat} {c : Array Value} (h : w.grownBy W (some q)) (hq : w.heap[q]? = some (.cells c T (0, 0))) (hb : base ≤ q) : Ty base T w W :=
  ⟨h.os, h.tape, h.output, h.size, fun k hk hc => h.block k hk fun e => by
    injection e with e
    subst e
    rcases hc with hc | hc
    · omega
    · exact hc _ hq⟩

/-- What a set holds. -/
def SetIs (w : World) (p q n : Nat) (S : Nat → Bool) : Prop := ∃ ws, SetRow w p q n ws ∧ ∀ i, bitAt ws i = (decide (i < n) && S i)
theorem SetIs.below {w w' : World} {p q n : Nat} {S : Nat → Bool} (h : SetIs w p q n S) (hb : Below w.heap.size w w') : SetIs w' p q n S := by
  obtain ⟨ws, h1, h2⟩ := h
  exact ⟨ws, h1.below hb, h2⟩
theorem SetIs.lt {w : World} {p q n : Nat} {S : Nat → Bool} (h : SetIs w p q n S) : p < w.heap.size ∧ q < w.heap.size := by
  obtain ⟨ws, h1, h2⟩ := h
  exact ⟨lt_of_some h1.hdr, lt_of_some h1.row⟩
theorem SetIs.congr {w : World} {p q n : Nat} {S S' : Nat → Bool} (h : SetIs w p q n S) (e : ∀ i, i < n → S i = S' i) : SetIs w p q n S' := by
  obtain ⟨ws, h1, h2⟩ := h
  refine ⟨ws, h1, fun i => ?_⟩
  rw [h2]
  by_cases hi : i < n
  · rw [e i hi]
  · simp [hi]
end Go.Proofs.YtcfbcfcoigifiaaDoor
