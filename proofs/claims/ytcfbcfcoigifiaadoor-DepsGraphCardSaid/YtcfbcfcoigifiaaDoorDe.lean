/- The labels' map, in the words of the document's table. -/
import Derived.Test.YtcfbcfcoigifiaaDoorDd
import Derived.Test.YtcfbcfcoigifiaaDoorV
set_option linter.unusedVariables false
set_option linter.unusedSimpArgs false
namespace Go.Proofs.YtcfbcfcoigifiaaDoor
open Go.RowKit Go.Maps
open Go.WideMaps (KeyLaw ArrKey keyOf_pair)

theorem orAt_same (L : Nat → Nat → Nat) (a c x : Nat) : orAt L a c x a c = L a c ||| x := by simp [orAt, upd]
theorem orAt_other (L : Nat → Nat → Nat) (a c x p q : Nat) (h : ¬ (p = a ∧ q = c)) : orAt L a c x p q = L p q := by
  unfold orAt upd
  by_cases h1 : p = a
  · subst h1
    have : ¬ q = c := fun e => h ⟨rfl, e⟩
    simp [this]
  · simp [h1]
theorem or_ne (y x : Nat) (h : 1 ≤ x) : y ||| x ≠ 0 := by
  intro e
  have := Nat.or_eq_zero_iff.1 e
  omega
theorem outE_row (L L' : Nat → Nat → Nat) (a : Nat) (h : ∀ q, L' a q = L a q) : ∀ m, outE L' a m = outE L a m
  | 0 => rfl
  | m + 1 => by rw [outE, outE, outE_row L L' a h m, h]
theorem outE_or (L : Nat → Nat → Nat) (a c x : Nat) (hx : 1 ≤ x) : ∀ m, (outE (orAt L a c x) a m).length = (outE L a m).length + if c < m ∧ L a c = 0 then 1 else 0
  | 0 => by simp [outE]
  | m + 1 => by
    rw [outE, outE, List.length_append, List.length_append, outE_or L a c x hx m]
    by_cases e : m = c
    · subst e
      rw [orAt_same, if_neg (or_ne _ _ hx)]
      by_cases h0 : L a m = 0
      · simp [h0]
      · simp [h0]
    · rw [orAt_other L a c x a m (by omega)]
      have : (c < m + 1 ∧ L a c = 0) = (c < m ∧ L a c = 0) := by apply propext; constructor <;> (rintro ⟨h1, h2⟩; exact ⟨by omega, h2⟩)
      simp only [this]
      split <;> split <;> simp
      all_goals omega
theorem allE_or (L : Nat → Nat → Nat) (a c x n : Nat) (hx : 1 ≤ x) (hc : c < n) : ∀ m, (allE (orAt L a c x) n m).length = (allE L n m).length + if a < m ∧ L a c = 0 then 1 else 0
  | 0 => by simp [allE]
  | m + 1 => by
    rw [allE, allE, List.length_append, List.length_append, allE_or L a c x n hx hc m]
    by_cases e : m = a
    · subst e
      rw [outE_or L m c x hx]
      by_cases h0 : L m c = 0
      · simp [h0, hc]; omega
      · simp [h0]
    · rw [outE_row L _ m (fun q => orAt_other L a c x m q (by omega))]
      have : (a < m + 1 ∧ L a c = 0) = (a < m ∧ L a c = 0) := by apply propext; constructor <;> (rintro ⟨h1, h2⟩; exact ⟨by omega, h2⟩)
      simp only [this]
      split <;> omega

theorem laidOut51 : laidOutB Tryd.prog = true := by kernel_rfl
theorem row51 : (51 : TypeId) < Tryd.prog.types.size := of_decide_eq_true (by kernel_rfl)
theorem cells51 : Tryd.prog.cellsOf 51 = 2 := by kernel_rfl
theorem arr51 : ArrKey Tryd.prog 51 3 2 := ⟨Tryd.underlying51, by kernel_rfl, by kernel_rfl, cells51⟩
theorem wide51 : (match Tryd.prog.underlying 51 with | some (.array _ _) | some (.struct _) => true | _ => false) = true := by rw [Tryd.underlying51]
theorem law51 : KeyLaw Tryd.prog 51 := deep_law_laid laidOut51 (m := 2) (by omega) row51 (by kernel_rfl) wide51
theorem keyed51 : Keyed Tryd.prog 51 := Keyed.of_law law51
def KLn (a b : Nat) : Lit := .string (keyBytes [.int .i64 ((a : Nat) : Int), .int .i64 ((b : Nat) : Int)])
def kv (a b : Nat) : Value := .agg #[.int .i64 ((a : Nat) : Int), .int .i64 ((b : Nat) : Int)]
theorem key51 {a b : Nat} (ha : a ≤ 1000000) (hb : b ≤ 1000000) : keyOf Tryd.prog 51 (kv a b) = some (KLn a b) :=
  keyOf_pair arr51 Tryd.underlying3 ⟨Tryd.prog.types.size - 1, (Nat.succ_pred_eq_of_pos (Nat.lt_of_le_of_lt (Nat.zero_le 51) row51)).symm⟩ (wfN ha) (wfN hb)
theorem keyLitS (a c : Nat) : WideAt.IsKeyLit (KLn a c) := by simp [WideAt.IsKeyLit, KLn]
theorem KLn_inj {a b c d : Nat} (ha : a ≤ 1000000) (hb : b ≤ 1000000) (hc : c ≤ 1000000) (hd : d ≤ 1000000) (h : KLn a b = KLn c d) : a = c ∧ b = d := by
  have h1 := key51 ha hb
  have h2 := key51 hc hd
  rw [← h] at h2
  have := law51.inj h1 h2
  unfold kv at this
  injection this with this
  have e0 := congrArg (fun x => x[0]?) this
  have e1 := congrArg (fun x => x[1]?) this
  simp at e0 e1
  omega

def LabMap (w : World) (b k : Nat) (F : Nat → Nat → Nat) (n : Nat) : Prop := ∃ D : DataW Unit, w.ownsMap Tryd.prog 51 (plainElem Tryd.prog 3) b k D ∧ Maps.size D = (allE F n n).length ∧
  ∀ a c : Nat, a < n → c < n → D.atKey (KLn a c) (i64D 0) = i64D (F a c : Nat) ∧ Maps.has D (KLn a c) = decide (F a c ≠ 0)
theorem allE_zero (n : Nat) : ∀ m, allE (fun _ _ => 0) n m = []
  | 0 => rfl
  | m + 1 => by
    have : ∀ k, outE (fun _ _ => 0) m k = [] := fun k => by induction k with | zero => rfl | succ k ih => simp [outE, ih]
    rw [allE, allE_zero n m, this]; rfl
theorem labmap_made (w : World) (n : Nat) : LabMap (w.alloc (.map #[] 0)) w.heap.size 0 (fun _ _ => 0) n :=
  ⟨.map [], World.ownsMap_made _ _ _ _, by rw [allE_zero]; rfl, fun a c _ _ => ⟨by simp [DataW.atKey], by simp [Maps.has]⟩⟩
theorem LabMap.keep {w w' : World} {b k n : Nat} {F : Nat → Nat → Nat} (h : LabMap w b k F n) (hb : Below w.heap.size w w') : LabMap w' b k F n := by
  obtain ⟨D, h1, h2⟩ := h
  exact ⟨D, h1.kept (grown_below hb none) (by simp), h2⟩
theorem LabMap.lt {w : World} {b k n : Nat} {F : Nat → Nat → Nat} (h : LabMap w b k F n) : b < w.heap.size := by obtain ⟨D, h1, _⟩ := h; exact h1.lt
theorem LabMap.len {w : World} {b k n : Nat} {F : Nat → Nat → Nat} (h : LabMap w b k F n) (ty : TypeId) : (Builtin.len_ #[48] ty #[.map (some b)]).run Tryd.prog w = .ok (.int .i64 ((allE F n n).length : Nat)) w := by
  obtain ⟨D, h1, h2, _⟩ := h
  rw [h1.len Tryd.underlying48, h2]
theorem LabMap.look {w : World} {b k n a c : Nat} {F : Nat → Nat → Nat} (h : LabMap w b k F n) (ha : a < n) (hc : c < n) (hn : n ≤ 300) :
    (Instr.lookup 48 (.map (some b)) (.agg #[.int .i64 ((a : Nat) : Int), .int .i64 ((c : Nat) : Int)]) false).run Tryd.prog w = .ok (.int .i64 (F a c : Nat)) w := by
  obtain ⟨D, h1, _, h3⟩ := h
  obtain ⟨x, hrun, hat, _⟩ := h1.lookup_int keyed51 Tryd.underlying48 Tryd.underlying3 (zero3 w) (key51 (a := a) (b := c) (by omega) (by omega))
  have := (h3 a c ha hc).1
  unfold i64D at this
  rw [this] at hat
  injection hat with hat
  injection hat with _ hat
  unfold kv at hrun
  rw [hrun, hat]
theorem LabMap.step {w : World} {b k n a c x : Nat} {F : Nat → Nat → Nat} (h : LabMap w b k F n) (ha : a < n) (hc : c < n) (hn : n ≤ 300) (hk : k < maxLen) (hx1 : 1 ≤ x) (hx : x ≤ 15) (hF : F a c < 16) :
    ∃ (st : Nat) (w1 w2 : World), (Instr.mapEntry 48 (.map (some b)) (.agg #[.int .i64 ((a : Nat) : Int), .int .i64 ((c : Nat) : Int)])).run Tryd.prog w = .ok (.tuple #[.int .i64 (F a c : Nat), goInt st]) w1 ∧
      (Instr.lookup 48 (.map (some b)) (.agg #[.int .i64 ((a : Nat) : Int), .int .i64 ((c : Nat) : Int)]) false).run Tryd.prog w1 = .ok (.int .i64 (F a c : Nat)) w1 ∧
      (∀ i, i ≠ b → w1.heap[i]? = w.heap[i]?) ∧
      (Instr.entryStore 48 (.map (some b)) (goInt st) (.int .i64 (F a c ||| x : Nat))).run Tryd.prog w1 = .ok () w2 ∧
      LabMap w2 b (k + 1) (orAt F a c x) n ∧ w.grownBy w2 (some b) := by
  have hlook := h.look ha hc hn
  obtain ⟨D, h1, h2, h3⟩ := h
  have h1' := h1
  obtain ⟨es, clock, hb, Ft, _, _⟩ := h1'
  have hkey := key51 (a := a) (b := c) (by omega) (by omega)
  unfold kv at hkey
  obtain ⟨v0, st, w1, hE, hL, hL1, ⟨es1, clock1, rfl⟩, hS⟩ := op_assign law51 Tryd.underlying48 (fun u => zero3 u) hb Ft hkey
  obtain ⟨w2, hS1, hS2⟩ := hS (.int .i64 (F a c ||| x : Nat))
  have ev : v0 = .int .i64 (F a c : Nat) := by
    have := hL.symm.trans hlook
    injection this
  subst ev
  have h16 : F a c ||| x < 16 := Nat.or_lt_two_pow (n := 4) hF (by omega)
  obtain ⟨w3, hU, hown, hg⟩ := h1.update keyed51 Tryd.underlying48 hk (d := i64D (F a c ||| x : Nat)) (ps := []) hkey (plainElem_int Tryd.underlying3 (wfN (by omega)))
  have ew : w2 = w3 := by
    have := hS2.symm.trans hU
    injection this
  subst ew
  refine ⟨st, _, w2, hE, hL1, fun i hi => ChangeMaps.heap_setBlock_other hb _ hi, hS1, ⟨_, hown, ?_, fun p q hp hq => ?_⟩, hg⟩
  · rw [Maps.size_put (h1.tidy keyed51), (h3 a c ha hc).2, h2, allE_or F a c x n hx1 hc n]
    by_cases h0 : F a c = 0
    · simp [h0, ha]
    · simp [h0]
  · by_cases e : p = a ∧ q = c
    · obtain ⟨rfl, rfl⟩ := e
      rw [Maps.atKey_put_same h1.isMap (keyLitS _ _), Maps.has_put_same h1.isMap (keyLitS _ _), orAt_same]
      exact ⟨rfl, by simp [or_ne _ _ hx1]⟩
    · have hne : KLn a c ≠ KLn p q := fun he => by
        obtain ⟨e1, e2⟩ := KLn_inj (by omega) (by omega) (by omega) (by omega) he
        exact e ⟨e1.symm, e2.symm⟩
      rw [Maps.atKey_put_other hne.symm, Maps.has_put_other hne.symm, orAt_other F a c x p q e]
      exact h3 p q hp hq
end Go.Proofs.YtcfbcfcoigifiaaDoor
