/- The law on orders, walked: it answers true, and nothing that was there has turned. -/
import Derived.Test.YtcfbcfcoigifiaaDoorR
set_option linter.unusedVariables false
set_option linter.unusedSimpArgs false
namespace Go.Proofs.YtcfbcfcoigifiaaDoor
open Go.RowKit

theorem ord_length {E : Nat → Nat → Bool} {n : Nat} : ∀ {k : Nat} {l r : List Nat}, ord E n k l = some r → r.length = l.length + k
  | 0, l, r, h => by simp [ord] at h; subst h; simp
  | k + 1, l, r, h => by
    rw [ord] at h
    split at h
    · cases h
    · have := ord_length h
      simp at this
      omega
/-- The order, or nothing; and whether there is one. -/
def ordL (E : Nat → Nat → Bool) (n : Nat) : List Nat := (ord E n n []).getD []
def ordB (E : Nat → Nat → Bool) (n : Nat) : Bool := (ord E n n []).isSome
theorem ordL_length (E : Nat → Nat → Bool) (n : Nat) : (ordL E n).length ≤ n := by
  unfold ordL
  cases h : ord E n n [] with
  | none => simp
  | some r => have := ord_length h; simp at this ⊢; omega
def OrderIs (E : Nat → Nat → Bool) (n : Nat) (w : World) (e : Ending) (w' : World) : Prop := ∃ v, e = .returned (.tuple #[v, .bool (ordB E n)]) ∧ Below w.heap.size w w' ∧ OwnInts w' w.heap.size v (ordL E n)
theorem order_is {E : Nat → Nat → Bool} {n : Nat} {w w' : World} {e : Ending} (h : OrderIn E n w e w') : OrderIs E n w e w' := by
  obtain ⟨hb, v, b, rfl, hbo, h1, h2⟩ := order_parts h
  subst hbo
  refine ⟨v, rfl, hb, ?_⟩
  unfold ordL
  cases ho : ord E n n [] with
  | none => rw [h2 ho]; exact World.ownsRow_nil _ _ _ _
  | some l => exact h1 l ho
theorem edge_fun {L : Nat → Nat → Nat} (h : ∀ a b, L a b < 16) (c : Int) : (fun a b => outTo (bitsOf L) a c 4 b) = edge L c := by
  funext a b
  exact edge_out L c a b (h a b)

def Holds (w : World) (e : Ending) (w' : World) : Prop := e = .returned (.bool true) ∧ Below w.heap.size w w'

set_option maxHeartbeats 1000000 in
theorem orders_in (n : Int) (A : Option Addr) (cap : Nat) (es : List (Int × Int × Int)) (c : Int) (w : World) (he : EdgesAt w A es) (hlen : es.length ≤ 9223372036854775807) (hT : Tab w) :
    Calls Tryd.prog 4 #[.int .i64 n, .slice A es.length cap, .int .i64 c] w (Holds w) := by
  have hN : sizeOf60 n < 60 := by unfold sizeOf60; omega
  have K := Lib.hid (And.intro (drawn_in n A cap es w he hlen) hT)
  clear he hT
  go_enter Tryd.func4, Tryd.ntmps4
  go_wp2_with fail
  refine K.out.1.mono ?_
  rintro e w1 ⟨g, x, L, rfl, hT2⟩
  have B := Lib.hid hT2
  clear hT2
  go_wp2_with fail
  refine (order_in w.heap.size g (sizeOf60 n) c _ w1 B.out.2.1 (K.out.2.below B.out.1)).mono ?_
  intro e w2 ho
  rw [edge_fun B.out.2.2.2.1] at ho
  obtain ⟨v1, rfl, hb2, ho1⟩ := order_is ho
  have C := Lib.hid (And.intro hb2 ho1)
  clear ho hb2 ho1
  go_wp2_with fail
  refine (rorder_in w.heap.size x (sizeOf60 n) c L w2 (B.out.2.2.1.below C.out.1)).mono ?_
  intro e w3 ho
  obtain ⟨v2, rfl, hb3, ho2⟩ := order_is ho
  have D := Lib.hid (And.intro hb3 ho2)
  clear ho hb3 ho2
  go_wp2_with fail
  refine (equal_in _ _ v1 v2 _ w3 (own_below2 C.out.2 D.out.1) D.out.2 (by have := ordL_length (edge L c) (sizeOf60 n); omega)).mono ?_
  rintro e w4 ⟨rfl, hb4⟩
  have F := Lib.hid hb4
  clear hb4
  cases hB : ordB (edge L c) (sizeOf60 n) with
  | true =>
    have HB := Lib.hid hB
    clear hB
    go_wp2_with fail
    refine (cyclic_in w.heap.size g (sizeOf60 n) c _ w4 (((B.out.2.1.below C.out.1).below D.out.1).below F.out) (((K.out.2.below B.out.1).below C.out.1 |>.below D.out.1).below F.out)).mono ?_
    rintro e w5 ⟨he, hb5⟩
    rw [edge_fun B.out.2.2.2.1, show (ord (edge L c) (sizeOf60 n) (sizeOf60 n) []).isSome = true from HB.out] at he
    subst he
    have G := Lib.hid hb5
    clear hb5
    go_wp2
    go_ret
    exact ⟨rfl, below_then' (below_then' (below_then' (below_then' B.out.1 C.out.1) D.out.1) F.out) G.out⟩
  | false =>
    have HB := Lib.hid hB
    clear hB
    go_wp2_with fail
    refine (cyclic_in w.heap.size g (sizeOf60 n) c _ w4 (((B.out.2.1.below C.out.1).below D.out.1).below F.out) (((K.out.2.below B.out.1).below C.out.1 |>.below D.out.1).below F.out)).mono ?_
    rintro e w5 ⟨he, hb5⟩
    rw [edge_fun B.out.2.2.2.1, show (ord (edge L c) (sizeOf60 n) (sizeOf60 n) []).isSome = false from HB.out] at he
    subst he
    have G := Lib.hid hb5
    clear hb5
    go_wp2
    go_ret
    exact ⟨rfl, below_then' (below_then' (below_then' (below_then' B.out.1 C.out.1) D.out.1) F.out) G.out⟩
end Go.Proofs.YtcfbcfcoigifiaaDoor
