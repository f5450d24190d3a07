/- What each function of package bits comes to, of sets that a call of the package made. -/
import Derived.Test.YtcfbcfcoigifiaaDoorRows
import Derived.Test.YtcfbcfcoigifiaaDoorA
import Derived.WalkSpells
import Derived.WalkLawsBesides
import Derived.Deep.QuietTactic
import Derived.BigQuiet
import Derived.Lib.Hide
import Derived.Outline
import Derived.StillTailTactics
set_option linter.unusedVariables false
set_option linter.unusedSimpArgs false
namespace Go.Proofs.YtcfbcfcoigifiaaDoor
open Go.RowKit

theorem Tryd.info81 : (Tryd.prog.info? 81).map (fun i => (i.zero, i.size, i.bytes)) = some (some (.int .u64 0), 1, 8) := by kernel_rfl
theorem Tryd.info3 : (Tryd.prog.info? 3).map (fun i => (i.zero, i.size, i.bytes)) = some (some (.int .i64 0), 1, 8) := by kernel_rfl

/-- 'make([]T, n)': the very world. -/
theorem wpList_make_exact {P : Program} (w : World) {ops : Array Oper} {rest : List Oper} {o : Oper} {a : Act} {Q : Exit → Act → World → Prop}
    (hg : o.guard = none) (l c : Operand) (t : TypeId) (hop : o.op = Op.makeSlice t l c)
    (e : TypeId) (i : TypeInfo) (z : Value) (size : Nat) (h1 : P.underlying t = some (.slice e)) (h2 : P.info? e = some i) (h3 : i.zero = some z) (h4 : i.size = size)
    (kl kc : IntKind) (L C : Int) (n : Nat) (hl : a.eval l = .int kl L) (hc : a.eval c = .int kc C) (hL : L = (n : Int)) (hC : C = (n : Int)) (b2 : i.bytes * n ≤ 281474976710656) (b3 : n ≤ maxLen)
    (hK : wpList P ops Q rest (a.put o.dst (.slice (some ⟨w.heap.size, 0, none⟩) n n)) (w.alloc (.cells (madeCells z.cells (n * size)) e))) :
    wpList P ops Q (o :: rest) a w := by
  refine wpList_plain hg fun K hK' => ?_
  have hrun := run_make (P := P) w t e i z h1 h2 h3 kl kc (n : Int) (n : Int) (by omega) (by omega) (by rw [← Int.natCast_mul]; omega) (by unfold maxLen at b3; omega)
  subst hL
  subst hC
  subst h4
  unfold Oper.wp
  simp [execOp, hop, hl, hc, hrun, Result.andThen]
  exact hK' _ _ (by simpa using hK)

set_option maxHeartbeats 400000 in
theorem none_nil (w : World) : Calls Tryd.prog 39 #[.pointer none] w fun e w' => e = .returned (.bool true) ∧ w = w' := by
  go_enter Tryd.func39, Tryd.ntmps39
  go_wp2
  go_ret
  exact ⟨rfl, rfl⟩

set_option maxHeartbeats 400000 in
theorem none_made (p : Nat) (w : World) (h2 : w.cell? ⟨p, 2, none⟩ = some (.bool true)) : Calls Tryd.prog 39 #[.pointer (some ⟨p, 0, none⟩)] w fun e w' => e = .returned (.bool false) ∧ w = w' := by
  go_enter Tryd.func39, Tryd.ntmps39
  go_wp2
  go_ret
  exact ⟨rfl, rfl⟩

set_option maxHeartbeats 400000 in
theorem at_out (p n : Nat) (i : Int) (w : World) (hi : i < 0 ∨ (n : Int) ≤ i)
    (h1 : w.cell? ⟨p, 1, none⟩ = some (.int .i64 n)) (h2 : w.cell? ⟨p, 2, none⟩ = some (.bool true)) :
    Calls Tryd.prog 35 #[.pointer (some ⟨p, 0, none⟩), .int .i64 i] w fun e w' => e = .returned (.tuple #[.pointer none, .int .u64 0, .int .i64 1]) ∧ w = w' := by
  by_cases h0 : i < 0
  · go_enter Tryd.func35, Tryd.ntmps35
    go_wp2
    go_ret3
    exact ⟨rfl, rfl⟩
  · have h0' : decide (i < 0) = false := by simpa using h0
    have h3 : (n : Int) ≤ i := by omega
    clear hi
    go_enter Tryd.func35, Tryd.ntmps35
    go_wp2
    go_ret3
    exact ⟨rfl, rfl⟩

def AtIn (q i : Nat) (w : World) (e : Ending) (w' : World) : Prop := ∃ m, e = .returned (.tuple #[.pointer (some ⟨q, i / 64, none⟩), .int .u64 ((2 ^ (i % 64) : Nat) : Int), .int .i64 0]) ∧ w' = w.drewN m

theorem pow_wrap (i : Nat) : IntKind.u64.wrap ((2 : Int) ^ (i % 64)) = ((2 ^ (i % 64) : Nat) : Int) := by
  have h : 2 ^ (i % 64) < 2 ^ 64 := Nat.pow_lt_pow_right (by omega) (by omega)
  have e : ((2 : Int) ^ (i % 64)) = ((2 ^ (i % 64) : Nat) : Int) := by rw [Int.natCast_pow]; rfl
  rw [e, IntKind.wrap_u64]
  generalize 2 ^ (i % 64) = x at h ⊢
  omega

set_option maxHeartbeats 400000 in
theorem at_in (p q k n : Nat) (i : Nat) (w : World) (hi : i < n) (hk : k = (n + 63) / 64) (hn : n ≤ 4096)
    (h0 : w.cell? ⟨p, 0, none⟩ = some (.slice (some ⟨q, 0, none⟩) k k))
    (h1 : w.cell? ⟨p, 1, none⟩ = some (.int .i64 n)) (h2 : w.cell? ⟨p, 2, none⟩ = some (.bool true)) :
    Calls Tryd.prog 35 #[.pointer (some ⟨p, 0, none⟩), .int .i64 i] w (AtIn q i w) := by
  have hik : i / 64 < k := by omega
  have hlt : (i : Int) < (n : Int) := by omega
  have h00 : decide ((i : Int) < 0) = false := by simp
  clear hk hi
  go_enter Tryd.func35, Tryd.ntmps35
  go_wp2
  go_quiet (fail)
  go_wp2
  go_ret3
  exact ⟨_, by rw [← pow_wrap]; rfl, rfl⟩

def NewSet (n : Nat) (w : World) (e : Ending) (w' : World) : Prop := ∃ p q, e = .returned (.tuple #[.pointer (some ⟨p, 0, none⟩), .int .i64 0]) ∧ w.heap.size ≤ p ∧ w.heap.size ≤ q ∧ Below w.heap.size w w' ∧ SetIs w' p q n (fun _ => false)

theorem new_close (n : Nat) (w : World) (hn : n ≤ 4096) : SetIs ((w.alloc (.cells (madeCells #[.int .u64 0] ((n + 63) / 64)) 81)).alloc (.cells #[.slice (some ⟨w.heap.size, 0, none⟩) ((n + 63) / 64) ((n + 63) / 64), .int .i64 n, .bool true] 79)) (w.heap.size + 1) w.heap.size n (fun _ => false) := by
  refine ⟨List.replicate ((n + 63) / 64) 0, ⟨?_, ?_, by simp, hn, ?_⟩, ?_⟩
  · have := heap_alloc_new (w.alloc (.cells (madeCells #[.int .u64 0] ((n + 63) / 64)) 81)) (.cells #[.slice (some ⟨w.heap.size, 0, none⟩) ((n + 63) / 64) ((n + 63) / 64), .int .i64 n, .bool true] 79)
    simpa using this
  · rw [Below.heap_alloc _ _ _ (by simp), heap_alloc_new]
    have : madeCells #[Value.int .u64 0] ((n + 63) / 64) = (u64s (List.replicate ((n + 63) / 64) 0)).toArray := by
      apply Array.ext
      · simp [size_madeCells, u64s]
      · intro i h1 h2
        simp [madeCells, u64s, Nat.mod_one]
    rw [this]
  · intro x hx
    rw [(List.mem_replicate.1 hx).2]; decide
  · intro i; simp [bitAt_zero]

set_option maxHeartbeats 400000 in
theorem new_ok (n : Nat) (w : World) (hn : n ≤ 4096) : Calls Tryd.prog 27 #[.int .i64 n] w (NewSet n w) := by
  obtain ⟨i0, hi, hz0, hz1, hz2⟩ := info_parts Tryd.info81
  have h0 : decide ((n : Int) < 0) = false := by simp
  have h1 : decide ((4096 : Int) < (n : Int)) = false := by simp; omega
  have ek : ((n : Int) + 63) / 64 = (((n + 63) / 64 : Nat) : Int) := by omega
  have Hek := Lib.hid ek
  clear ek
  go_enter Tryd.func27, Tryd.ntmps27
  go_wp2_with (at_make; refine wpList_make_exact _ rfl _ _ 77 rfl 81 i0 (.int .u64 0) 1 Tryd.underlying77 hi hz0 hz1 _ _ _ _ ((n+63)/64) rfl rfl Hek.out Hek.out ?c1 ?c2 ?_)
  case c1 => rw [hz2]; omega
  case c2 => unfold maxLen; omega
  go_wp2
  go_ret2
  exact ⟨_, _, rfl, Nat.le_succ _, Nat.le_refl _, ((Below.refl _ _).alloc (Nat.le_refl _) _).alloc (by simp) _, new_close n w hn⟩

theorem or_wrap (x y : Nat) (hx : x < 18446744073709551616) (hy : y < 18446744073709551616) : bits .or .u64 (x : Int) (y : Int) = ((x ||| y : Nat) : Int) := u64_or_nat x y hx hy
theorem pow_lt (i : Nat) : 2 ^ (i % 64) < 18446744073709551616 := Nat.pow_lt_pow_right (m := i % 64) (n := 64) (by omega) (by omega)

def AddIn (w : World) (p q n i : Nat) (S : Nat → Bool) (e : Ending) (w' : World) : Prop := e = .returned (.int .i64 0) ∧ SetIs w' p q n (fun j => S j || decide (j = i)) ∧ w.grownBy w' (some q)
theorem add_close {w : World} {p q n i : Nat} {ws : List Nat} {S : Nat → Bool} (h : SetRow w p q n ws) (hS : ∀ i, bitAt ws i = (decide (i < n) && S i)) (hi : i < n) (m : Nat) :
    SetIs ((w.drewN m).setCell ⟨q, i / 64, none⟩ (.int .u64 (bits .or .u64 ((ws.getD (i / 64) 0 : Nat) : Int) ((2 ^ (i % 64) : Nat) : Int)))) p q n (fun j => S j || decide (j = i)) := by
  rw [or_wrap _ _ (h.wlt _) (pow_lt i)]
  have h' : SetRow (w.drewN m) p q n ws := h.keep rfl rfl
  refine ⟨_, h'.put (i / 64) _ (Nat.or_lt_two_pow (n := 64) (h.wlt _) (pow_lt i)), fun j => ?_⟩
  rw [bitAt_set ws i j (by rw [h.len]; omega), hS]
  by_cases e : j = i
  · subst e; simp [hi]
  · simp [e]

set_option maxHeartbeats 400000 in
theorem add_in (p q n i : Nat) (S : Nat → Bool) (w : World) (h : SetIs w p q n S) (hi : i < n) :
    Calls Tryd.prog 29 #[.pointer (some ⟨p, 0, none⟩), .int .i64 i] w (AddIn w p q n i S) := by
  obtain ⟨ws, hr, hS⟩ := h
  have hw := hr.word (i / 64) (by rw [hr.len]; omega)
  have hf := hr.free (i / 64)
  have c0 := at_in p q ws.length n i w hi hr.len hr.n_le hr.c0 hr.c1 hr.c2
  have A := Lib.hid (And.intro hr (And.intro hS c0))
  clear hr hS c0
  go_enter Tryd.func29, Tryd.ntmps29
  go_wp2_with fail
  refine A.out.2.2.mono ?_
  rintro e w' ⟨m, rfl, rfl⟩
  go_wp2
  go_ret
  exact ⟨rfl, add_close A.out.1 A.out.2.1 hi m, by
    have h' : SetRow (w.drewN m) p q n ws := A.out.1.keep rfl rfl
    exact (grown_drewN (World.grownBy.refl _ _) m).trans (h'.put_grown _ _)⟩
end Go.Proofs.YtcfbcfcoigifiaaDoor
