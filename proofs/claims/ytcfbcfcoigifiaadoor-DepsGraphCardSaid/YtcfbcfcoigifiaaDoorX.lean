/- All edges of the program's graph, in their order; rows of edges compared. -/
import Derived.Test.YtcfbcfcoigifiaaDoorW
set_option linter.unusedVariables false
set_option linter.unusedSimpArgs false
namespace Go.Proofs.YtcfbcfcoigifiaaDoor
open Go.RowKit

/-- The edges out of a to the nodes of l. -/
def listE (L : Nat → Nat → Nat) (a : Nat) (l : List Nat) : List (Nat × Nat × Nat) := l.map fun b => (a, b, L a b)
theorem out15 (L : Nat → Nat → Nat) (a b : Nat) (h : L a b < 16) : outTo (bitsOf L) a 15 4 b = decide (L a b ≠ 0) := by
  rw [edge_out L 15 a b h]
  unfold edge
  rw [and_small _ _ h]
  have key : ∀ x : Fin 16, ((((x : Nat) &&& low 15 : Nat) : Int) != 0) = decide ((x : Nat) ≠ 0) := by decide
  exact key ⟨L a b, h⟩
theorem listE_out (L : Nat → Nat → Nat) (a : Nat) (hL : ∀ a b, L a b < 16) : ∀ n, listE L a (mem (outTo (bitsOf L) a 15 4) n) = outE L a n
  | 0 => rfl
  | n + 1 => by
    have ih := listE_out L a hL n
    have h := out15 L a n (hL a n)
    rw [outE]
    by_cases e : L a n = 0
    · rw [mem_miss (by rw [h]; simp [e]), ih, if_pos e, List.append_nil]
    · rw [mem_hit (by rw [h]; simp [e]), if_neg e, ← ih]
      simp [listE]
theorem listE_take (L : Nat → Nat → Nat) (a k : Nat) (l : List Nat) (h : k < l.length) : listE L a (l.take (k + 1)) = listE L a (l.take k) ++ [(a, l.getD k 0, L a (l.getD k 0))] := by
  have e : l.getD k 0 = l[k] := by simp [List.getD_eq_getElem?_getD, List.getElem?_eq_getElem h]
  rw [e, List.take_succ_eq_append_getElem h]
  unfold listE
  rw [List.map_append, List.map_cons, List.map_nil]
theorem EdgeRel.below {w wr w' : World} {v : Value} {es : List (Nat × Nat × Nat)} (h : EdgeRel w wr v es) (hb : Below wr.heap.size wr w') : EdgeRel w w' v es := ⟨below_then' h.1 hb, h.2.below hb⟩

theorem own_grown_ty {W w' : World} {base e size n : Nat} {v : Value} {xs : List Value} (h : W.ownsRow base e size v n xs) (hg : W.grownBy w' v.ownBlock) : Ty base e W w' :=
  ⟨hg.os, hg.tape, hg.output, hg.size, fun k hk hc => hg.block k hk fun he => by
    obtain ⟨h1, cur, h2⟩ := own_block h he.symm
    rcases hc with hc | hc
    · omega
    · exact hc _ h2⟩

set_option maxHeartbeats 2000000 in
theorem gedges_in (base g n : Nat) (L : Nat → Nat → Nat) (w : World) (h : GrIs w base g n (bitsOf L)) (hL : ∀ a b, L a b < 16) (hT : Tab w) :
    Calls Tryd.prog 15 #[.pointer (some ⟨g, 0, none⟩)] w (EdgesIn w (allE L n n)) := by
  obtain ⟨i0, hi0, hz0, hz1, hz2⟩ := info_parts Tryd.info37
  have h0 : w.cell? ⟨g, 0, none⟩ = some (.int .i64 n) := by obtain ⟨v, p, q, R⟩ := h; exact R.cn
  have hn : n ≤ 300 := by obtain ⟨v, p, q, R⟩ := h; exact R.n_le
  have H := Lib.hid (And.intro (nodes_is g n w h0) (And.intro h (And.intro hL hT)))
  clear h hL hT h0
  go_enter Tryd.func15, Tryd.ntmps15
  go_wp2_with fail
  refine H.out.1.mono ?_
  rintro e w' ⟨rfl, rfl⟩
  go_wp2_with fail
  go_loopw [3, 9] (fun v u wr => ∃ a : Nat, a ≤ n ∧ u = .int .i64 a ∧ EdgeRel w wr v (allE L n a)) (fun _ u _ => n - (intOf u).toNat)
  case atStart => exact ⟨0, Nat.zero_le _, rfl, Below.refl _ _, World.ownsRow_nil _ _ _ _⟩
  case round =>
    obtain ⟨a, ha, rfl, R⟩ := hrel
    obtain ⟨wo, rfl⟩ : ∃ wo : World, wo = wr := ⟨_, rfl⟩
    by_cases hlt : a < n
    · have hlt' : (a : Int) < (n : Int) := by omega
      have R' := Lib.hid R
      clear R
      go_wp2_with fail
      refine (out_in base g n a 15 (bitsOf L) wo hlt (H.out.2.1.below R'.out.1) (H.out.2.2.2.below R'.out.1)).mono ?_
      rintro e w1 ⟨v1, rfl, hb1, ho1⟩
      have R1 := R'.out.below hb1
      have hG := (H.out.2.1.below R'.out.1).below hb1
      have hle := mem_length (outTo (bitsOf L) a 15 4) n
      obtain ⟨O, c1, hv, _⟩ := own_cells ho1
      subst hv
      obtain ⟨l, hl⟩ : ∃ l, l = mem (outTo (bitsOf L) a 15 4) n := ⟨_, rfl⟩
      have hmem : ∀ t, t < l.length → l.getD t 0 < n := fun t ht => by rw [hl] at ht ⊢; exact mem_lt _ _ _ ht
      rw [← hl] at ho1 hle ⊢
      have R2 := Lib.hid (And.intro R1 (And.intro ho1 (And.intro hG (And.intro hl hmem))))
      clear R1 hG hl hb1 ho1 hmem
      go_wp2_with fail
      go_loopw [3, 16] (fun v u wr => ∃ t : Nat, t ≤ l.length ∧ u = .int .i64 t ∧ EdgeRel w wr v (allE L n a ++ listE L a (l.take t)) ∧ Ty w.heap.size 37 w1 wr) (fun _ u _ => l.length - (intOf u).toNat)
      case atStart => exact ⟨0, Nat.zero_le _, rfl, by simpa [listE] using R2.out.1, Ty.refl _ _ _⟩
      case round =>
        obtain ⟨t, ht, rfl, R, hb2⟩ := hrel
        by_cases htl : t < l.length
        · have htl' : (t : Int) < (l.length : Int) := by omega
          have hoi : OwnInts wr wo.heap.size (.slice O l.length c1) l := own_ty R2.out.2.1 hb2 (by decide)
          obtain ⟨O', c', hv', hcell⟩ := own_cells hoi
          injection hv' with e1 e2 e3
          subst e1
          obtain ⟨gO, rfl, cO'⟩ := hcell t htl
          have hyn := R2.out.2.2.2.2 t htl
          have hes := listE_take L a t l htl
          obtain ⟨y, hy⟩ : ∃ y, y = l.getD t 0 := ⟨_, rfl⟩
          rw [← hy] at cO' hyn hes
          have R3 := Lib.hid (And.intro R (And.intro hb2 (And.intro hes (R2.out.2.2.1.ty hb2 (by decide)))))
          clear R hb2 hcell hoi e3 hes hy
          go_wp2_with fail
          refine (labels_in base g n a y (bitsOf L) wr hlt hyn R3.out.2.2.2).mono ?_
          rintro e w3 ⟨rfl, m, hm⟩
          have hb4 : Below wr.heap.size wr w3 := by rw [hm]; exact below_drewN' (Below.refl _ _) m
          clear hm
          rw [labTo_bits L a y (H.out.2.2.1 a y)]
          have hlen : (allE L n a ++ listE L a (l.take t)).length ≤ 100000 := by
            have q1 := allE_length L n a
            have q3 : a * n ≤ 300 * 300 := Nat.mul_le_mul (by omega) hn
            rw [List.length_append]
            unfold listE
            rw [List.length_map, List.length_take]
            omega
          obtain ⟨z, hz⟩ : ∃ z, z = L a y := ⟨_, rfl⟩
          obtain ⟨es, hes'⟩ : ∃ es, es = allE L n a ++ listE L a (l.take t) := ⟨_, rfl⟩
          rw [← hes'] at hlen R3
          rw [← hz] at R3 ⊢
          have hes2 : allE L n a ++ listE L a (l.take (t + 1)) = es ++ [(a, y, z)] := by rw [R3.out.2.2.1, hes', hz, List.append_assoc]
          have HE := Lib.hid hes2
          have hown : w3.ownsRow w.heap.size 37 3 u3 es.length (trisV es) := own_below' R3.out.1.2 hb4
          have hbs : w.heap.size ≤ w3.heap.size := Nat.le_trans R3.out.1.1.size hb4.size
          have hb3 := R3.out.2.1.trans (Ty.of_below hb4)
          have R4 := Lib.hid (And.intro (R3.out.1.below hb4) hb3)
          clear hes' hz hes2 hb3 hb4
          go_wp2_with (at_builtin; refine wpList_append_own _ rfl _ _ 22 rfl w.heap.size 37 i0 (.agg #[.int .i64 0, .int .i64 0, .int .i64 0]) 3 24 Tryd.underlying22 hi0 hz0 hz1 hz2 rfl (by decide) _ _ _ rfl (hown.alloc _) ⟨w3.heap.size, 0, none⟩ 1 1 [.int .i64 (a : Nat), .int .i64 (y : Nat), .int .i64 (z : Nat)] rfl rfl (news3 _ _ _ _ _) (three_cells _ _ _) (by unfold maxLen; omega) (by omega) (by simp; omega) ?_)
          intro v' w4 hown' hgrow _
          have F := Lib.hid (EdgeRel.hit (e := (a, y, z)) R4.out.1 hown' hgrow)
          have F2 := Lib.hid ((R4.out.2.trans (Ty.of_below ((Below.refl _ _).alloc (Nat.le_refl _) _))).trans (own_grown_ty (hown.alloc _) hgrow))
          clear hown hown' hgrow
          go_wp2
          go_roundw
          case rel => exact ⟨t + 1, by omega, by go_num, by rw [HE.out]; exact F.out, F2.out⟩
          case measure => simp [intOf]; omega
        · obtain rfl : t = l.length := by omega
          have S := Lib.hid (show EdgeRel w wr u3 (allE L n (a + 1)) by
            have : listE L a (l.take l.length) = outE L a n := by rw [List.take_length, R2.out.2.2.2.1]; exact listE_out L a H.out.2.2.1 n
            rw [this] at R
            exact R)
          clear R hb2
          go_wp2
          go_roundw
          case rel => exact ⟨a + 1, by omega, by go_num, S.out⟩
          case measure => simp [intOf]; omega
    · obtain rfl : a = n := by omega
      have S := Lib.hid R
      clear R
      go_wp2
      go_ret
      exact ⟨_, rfl, S.out.1, S.out.2⟩
end Go.Proofs.YtcfbcfcoigifiaaDoor
