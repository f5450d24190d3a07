/- Of an order each edge leads on; a map of the nodes' places. -/
import Derived.Test.YtcfbcfcoigifiaaDoorU
import Derived.Maps.OwnSet
import Derived.Maps.OwnOps
set_option linter.unusedVariables false
set_option linter.unusedSimpArgs false
namespace Go.Proofs.YtcfbcfcoigifiaaDoor
open Go.RowKit Go.Maps

/-- Each node was free when it was taken, and had not been taken. -/
def Good (E : Nat → Nat → Bool) (n : Nat) (l : List Nat) : Prop := ∀ i x, l[i]? = some x → x < n ∧ (l.take i).contains x = false ∧ freeOf E n (l.take i) x = true
theorem good_next {E : Nat → Nat → Bool} {n x : Nat} {l : List Nat} (h : Good E n l) (hx : nxt E n l = some x) : Good E n (l ++ [x]) := by
  intro i y hy
  obtain ⟨h1, h2, h3⟩ := nxt_some hx
  by_cases hi : i < l.length
  · rw [List.getElem?_append_left hi] at hy
    rw [List.take_append_of_le_length (by omega)]
    exact h i y hy
  · have hlt := (List.getElem?_eq_some_iff.1 hy).1
    simp at hlt
    obtain rfl : i = l.length := by omega
    simp at hy
    subst hy
    rw [List.take_left]
    exact ⟨h1, h2, h3⟩
theorem ord_good {E : Nat → Nat → Bool} {n : Nat} : ∀ {k : Nat} {l r : List Nat}, Good E n l → ord E n k l = some r → Good E n r
  | 0, l, r, hg, h => by simp [ord] at h; subst h; exact hg
  | k + 1, l, r, hg, h => by
    rw [ord] at h
    split at h
    · cases h
    · rename_i x hx
      exact ord_good (good_next hg hx) h
theorem good_ne {E : Nat → Nat → Bool} {n i j x y : Nat} {l : List Nat} (h : Good E n l) (hi : l[i]? = some x) (hj : l[j]? = some y) (hlt : i < j) : x ≠ y := by
  rintro rfl
  have := (h j x hj).2.1
  rw [← Bool.not_eq_true, List.contains_iff_mem] at this
  exact this (List.mem_iff_getElem?.2 ⟨i, by rw [List.getElem?_take, if_pos hlt]; exact hi⟩)
theorem good_nodup {E : Nat → Nat → Bool} {n : Nat} {l : List Nat} (h : Good E n l) : l.Nodup := by
  rw [List.Nodup, List.pairwise_iff_getElem]
  intro i j hi hj hlt
  exact good_ne h (List.getElem?_eq_getElem hi) (List.getElem?_eq_getElem hj) hlt
theorem good_leads {E : Nat → Nat → Bool} {n i j a b : Nat} {l : List Nat} (h : Good E n l) (ha : a < n) (hj : l[j]? = some a) (hi : l[i]? = some b) (he : E a b = true) : j < i := by
  apply Nat.lt_of_not_le
  intro hle
  have := (h i b hi).2.2
  rw [freeOf, List.all_eq_true] at this
  have := this a (List.mem_range.2 ha)
  rw [he] at this
  simp only [Bool.not_true, Bool.or_false, List.contains_iff_mem] at this
  obtain ⟨t, ht⟩ := List.mem_iff_getElem?.1 this
  rw [List.getElem?_take] at ht
  split at ht
  · rename_i hti
    exact good_ne h ht hj (by omega) rfl
  · cases ht
theorem nodup_le : ∀ (n : Nat) (l : List Nat), l.Nodup → (∀ x ∈ l, x < n) → l.length ≤ n
  | 0, l, _, h => by
    cases l with
    | nil => exact Nat.le_refl _
    | cons a l => exact absurd (h a (by simp)) (by omega)
  | n + 1, l, hd, h => by
    have h1 : (l.erase n).length ≤ n := nodup_le n (l.erase n) (hd.erase n) (fun x hx => by
      have := (List.Nodup.mem_erase_iff hd).1 hx
      have := h x this.2
      omega)
    rw [List.length_erase] at h1
    split at h1 <;> omega
theorem nodup_all {n a : Nat} {l : List Nat} (hd : l.Nodup) (h : ∀ x ∈ l, x < n) (hl : l.length = n) (ha : a < n) : a ∈ l := by
  apply Classical.byContradiction
  intro hno
  have := nodup_le n (a :: l) (List.nodup_cons.2 ⟨hno, hd⟩) (fun x hx => by
    rcases List.mem_cons.1 hx with rfl | hx
    · exact ha
    · exact h x hx)
  simp at this
  omega
theorem ordL_good {E : Nat → Nat → Bool} {n : Nat} : Good E n (ordL E n) := by
  unfold ordL
  cases h : ord E n n [] with
  | none => intro i x hx; simp at hx
  | some r => exact ord_good (l := []) (fun i x hx => by simp at hx) h
theorem ordL_full {E : Nat → Nat → Bool} {n : Nat} (h : ordB E n = true) : (ordL E n).length = n := by
  unfold ordB at h
  unfold ordL
  cases ho : ord E n n [] with
  | none => rw [ho] at h; cases h
  | some r => have := ord_length ho; simpa using this
theorem ordL_leads {E : Nat → Nat → Bool} {n a b : Nat} (h : ordB E n = true) (ha : a < n) (hb : b < n) (he : E a b = true) : ∃ (j i : Nat), (ordL E n)[j]? = some a ∧ (ordL E n)[i]? = some b ∧ j < i := by
  have hg := @ordL_good E n
  have hlt : ∀ x ∈ ordL E n, x < n := fun x hx => by
    obtain ⟨i, hi⟩ := List.mem_iff_getElem?.1 hx
    exact (hg i x hi).1
  obtain ⟨j, hj⟩ := List.mem_iff_getElem?.1 (nodup_all (good_nodup hg) hlt (ordL_full h) ha)
  obtain ⟨i, hi⟩ := List.mem_iff_getElem?.1 (nodup_all (good_nodup hg) hlt (ordL_full h) hb)
  exact ⟨j, i, hj, hi, good_leads hg ha hj hi he⟩

theorem law3 : Keyed Tryd.prog 3 := int_keyed Tryd.underlying3
theorem zero3 (w : World) : (zeroValue 3).run Tryd.prog w = .ok (.int .i64 0) w := by kernel_rfl
theorem key3 {a : Int} (h : (Lit.int .i64 a).wf = true) : keyOf Tryd.prog 3 (.int .i64 a) = some (.int .i64 a) := keyOf_int_mk Tryd.underlying3 h
theorem wfN {a : Nat} (h : a ≤ 1000000) : (Lit.int .i64 (a : Int)).wf = true := WalkArith.wf_i64 (by omega)

def i64D (a : Int) : DataW Unit := .lit (.int .i64 a)
/-- The map at block b holds the places of the first k of l. -/
def Places (w : World) (b : Nat) (l : List Nat) (k : Nat) : Prop := ∃ D : DataW Unit, w.ownsMap Tryd.prog 3 (plainElem Tryd.prog 3) b k D ∧ Maps.size D = k ∧ (∀ m, Maps.has D (.int .i64 ((m : Nat) : Int)) = (l.take k).contains m) ∧
  ∀ (j m : Nat), j < k → l[j]? = some m → D.atKey (.int .i64 ((m : Nat) : Int)) (i64D 0) = i64D (j : Nat)
theorem places_made (w : World) (l : List Nat) : Places (w.alloc (.map #[] 0)) w.heap.size l 0 :=
  ⟨.map [], World.ownsMap_made _ _ _ _, rfl, fun m => by simp [Maps.has], fun j m hj => absurd hj (by omega)⟩
theorem Places.keep {w w' : World} {b k : Nat} {l : List Nat} (h : Places w b l k) (hb : Below w.heap.size w w') : Places w' b l k := by
  obtain ⟨D, h1, h2⟩ := h
  exact ⟨D, h1.kept (grown_below hb none) (by simp), h2⟩
theorem Places.lt {w : World} {b k : Nat} {l : List Nat} (h : Places w b l k) : b < w.heap.size := by obtain ⟨D, h1, _⟩ := h; exact h1.lt

theorem keyLit3 (a : Int) : WideAt.IsKeyLit (.int .i64 a) := by simp [WideAt.IsKeyLit]
theorem key_ne {a b : Nat} (h : a ≠ b) : (Lit.int .i64 ((a : Nat) : Int)) ≠ Lit.int .i64 ((b : Nat) : Int) := by
  intro e
  injection e with _ e
  omega
theorem places_put {w1 : World} {b k x : Nat} {l : List Nat} {D : DataW Unit} (hm : Maps.Tidy D) (h2 : Maps.size D = k) (h3 : ∀ m, Maps.has D (.int .i64 ((m : Nat) : Int)) = (l.take k).contains m)
    (h4 : ∀ (j m : Nat), j < k → l[j]? = some m → D.atKey (.int .i64 ((m : Nat) : Int)) (i64D 0) = i64D (j : Nat)) (hx : l[k]? = some x) (hno : (l.take k).contains x = false)
    (h1 : w1.ownsMap Tryd.prog 3 (plainElem Tryd.prog 3) b (k + 1) (D.put (.int .i64 ((x : Nat) : Int)) (i64D (k : Nat)))) : Places w1 b l (k + 1) := by
  have hk : k < l.length := (List.getElem?_eq_some_iff.1 hx).1
  have htake : l.take (k + 1) = l.take k ++ [x] := by
    rw [List.take_succ_eq_append_getElem hk]
    rw [List.getElem?_eq_getElem hk] at hx
    rw [Option.some.inj hx]
  refine ⟨_, h1, ?_, fun m => ?_, fun j m hj hm' => ?_⟩
  · rw [Maps.size_put hm, h3, hno, h2]; rfl
  · rw [htake]
    have hc : (l.take k ++ [x]).contains m = ((l.take k).contains m || (m == x)) := by
      simp only [List.contains_eq_any_beq, List.any_append, List.any_cons, List.any_nil, Bool.or_false]
    rw [hc]
    by_cases e : m = x
    · subst e
      rw [Maps.has_put_same hm.isMap (keyLit3 _)]
      simp
    · rw [Maps.has_put_other (key_ne e), h3]
      simp [e]
  · by_cases e : m = x
    · subst e
      rw [Maps.atKey_put_same hm.isMap (keyLit3 _)]
      by_cases ejk : j = k
      · rw [ejk]
      · exfalso
        rw [← Bool.not_eq_true, List.contains_iff_mem] at hno
        exact hno (List.mem_iff_getElem?.2 ⟨j, by rw [List.getElem?_take, if_pos (by omega)]; exact hm'⟩)
    · rw [Maps.atKey_put_other (key_ne e)]
      have : j ≠ k := by
        rintro rfl
        rw [hx] at hm'
        exact e (Option.some.inj hm').symm
      exact h4 j m (by omega) hm'

theorem law34 : Tryd.prog.underlying 34 = some (.map 3 3) := Tryd.underlying34

def CyclicR (E : Nat → Nat → Bool) (n : Nat) (w : World) (e : Ending) (w' : World) : Prop := e = .returned (.bool (!ordB E n)) ∧ Below w.heap.size w w'
set_option maxHeartbeats 400000 in
theorem rcyclic_in (base x n : Nat) (c : Int) (L : Nat → Nat → Nat) (w : World) (h : RefIs w base x n L) :
    Calls Tryd.prog 8 #[.pointer (some ⟨x, 0, none⟩), .int .i64 c] w (CyclicR (edge L c) n w) := by
  have A := Lib.hid (rorder_in base x n c L w h)
  clear h
  go_enter Tryd.func8, Tryd.ntmps8
  go_wp2_with fail
  refine A.out.mono ?_
  intro e w1 ho
  obtain ⟨v, rfl, hb, _⟩ := order_is ho
  have B := Lib.hid hb
  clear ho hb
  go_wp2
  all_goals go_ret
  all_goals exact ⟨by simp [*], B.out⟩

theorem places_look {W : World} {b N j m : Nat} {l : List Nat} (h : Places W b l N) (hj : j < N) (hm : l[j]? = some m) (hmb : m ≤ 1000000) :
    (Instr.lookup 34 (.map (some b)) (.int .i64 ((m : Nat) : Int)) false).run Tryd.prog W = .ok (.int .i64 ((j : Nat) : Int)) W := by
  obtain ⟨D, h1, _, _, h4⟩ := h
  obtain ⟨c, hrun, hat, _⟩ := h1.lookup_int law3 Tryd.underlying34 Tryd.underlying3 (zero3 W) (key3 (wfN hmb))
  have := h4 j m hj hm
  unfold i64D at this
  rw [this] at hat
  injection hat with hat
  injection hat with _ hat
  rw [hrun, hat]
theorem places_len {W : World} {b N : Nat} {l : List Nat} (h : Places W b l N) (ty : TypeId) : (Builtin.len_ #[34] ty #[.map (some b)]).run Tryd.prog W = .ok (.int .i64 ((N : Nat) : Int)) W := by
  obtain ⟨D, h1, h2, _⟩ := h
  rw [h1.len Tryd.underlying34, h2]
def LeadRel (w3 wr : World) (l : List Nat) (k : Nat) : Prop := Below w3.heap.size w3 wr ∧ Places wr w3.heap.size l k
theorem LeadRel.put {w3 wr w' : World} {l : List Nat} {k : Nat} (h : LeadRel w3 wr l k) (hg : wr.grownBy w' (some w3.heap.size)) (hp : Places w' w3.heap.size l (k + 1)) : LeadRel w3 w' l (k + 1) :=
  ⟨h.1.grown hg h.1.size (fun j hj => by injection hj with hj; omega), hp⟩
theorem getD_some {l : List Nat} {k : Nat} (h : k < l.length) : l[k]? = some (l.getD k 0) := by
  rw [List.getD_eq_getElem?_getD, List.getElem?_eq_getElem h]; rfl

set_option maxHeartbeats 2000000 in
theorem leads_in (n : Int) (A : Option Addr) (cap : Nat) (es : List (Int × Int × Int)) (c : Int) (w : World) (he : EdgesAt w A es) (hlen : es.length ≤ 9223372036854775807) (hT : Tab w) :
    Calls Tryd.prog 3 #[.int .i64 n, .slice A es.length cap, .int .i64 c] w (Holds w) := by
  have hN : sizeOf60 n < 60 := by unfold sizeOf60; omega
  have hmm := @run_makeMap Tryd.prog
  have K := Lib.hid (And.intro (drawn_in n A cap es w he hlen) hT)
  clear he hT
  go_enter Tryd.func3, Tryd.ntmps3
  go_wp2_with fail
  refine K.out.1.mono ?_
  rintro e w1 ⟨g, x, L, rfl, hT2⟩
  have B := Lib.hid hT2
  clear hT2
  go_wp2_with fail
  refine (order_in w.heap.size g (sizeOf60 n) c _ w1 B.out.2.1 (K.out.2.below B.out.1)).mono ?_
  intro e w2 ho
  rw [edge_fun B.out.2.2.2.1] at ho
  obtain ⟨v1, rfl, hb2, ho1⟩ := order_is ho
  have C := Lib.hid (And.intro hb2 ho1)
  clear ho hb2 ho1
  go_wp2_with fail
  refine (rcyclic_in w.heap.size x (sizeOf60 n) c L w2 (B.out.2.2.1.below C.out.1)).mono ?_
  rintro e w3 ⟨rfl, hb3⟩
  have D := Lib.hid hb3
  clear hb3
  cases hB : ordB (edge L c) (sizeOf60 n) with
  | true =>
    have HB := Lib.hid hB
    clear hB
    obtain ⟨O, c1, hv, hcell⟩ := own_cells (own_below2 C.out.2 D.out)
    subst hv
    obtain ⟨Ar, ca, h0⟩ := ((B.out.2.2.1.below C.out.1).below D.out).head
    rw [ordL_full HB.out]
    have hbne : (((sizeOf60 n : Nat) : Int) != ((sizeOf60 n : Nat) : Int)) = false := by simp
    obtain ⟨N, hNe⟩ : ∃ N, N = sizeOf60 n := ⟨_, rfl⟩
    have HL := Lib.hid (show (ordL (edge L c) (sizeOf60 n)).length = N by rw [ordL_full HB.out, hNe])
    have HN := Lib.hid hNe
    rw [← hNe] at hN h0 hbne B ⊢
    obtain ⟨l, hl⟩ : ∃ l, l = ordL (edge L c) (sizeOf60 n) := ⟨_, rfl⟩
    rw [← hl] at HL hcell
    have HO := Lib.hid hl
    have HC := Lib.hid hcell
    clear hNe hl hcell
    go_wp2_with fail
    go_loopw [53] (fun u wr => ∃ k : Nat, k ≤ N ∧ u = .int .i64 k ∧ LeadRel w3 wr l k) (fun u _ => N - (intOf u).toNat)
    case atStart => exact ⟨0, Nat.zero_le _, rfl, (Below.refl _ _).alloc (Nat.le_refl _) _, places_made w3 l⟩
    case round =>
      obtain ⟨k, hk, rfl, R⟩ := hrel
      by_cases hlt : k < N
      · have hkl : k < l.length := by rw [HL.out]; exact hlt
        obtain ⟨gO, rfl, cO⟩ := HC.out k hkl
        have cO' := old_cell R.1 cO
        have hgood := ordL_good (E := edge L c) (n := sizeOf60 n) k (l.getD k 0) (by rw [← HO.out]; exact getD_some hkl)
        rw [← HO.out] at hgood
        have hsome := getD_some hkl
        obtain ⟨y, hy⟩ : ∃ y, y = l.getD k 0 := ⟨_, rfl⟩
        rw [← hy] at cO' hgood hsome
        obtain ⟨D0, m1, m2, m3, m4⟩ := R.2
        have hyb : y ≤ 1000000 := by have := hgood.1; have := HN.out; omega
        have R2 := Lib.hid (And.intro R (And.intro m2 (And.intro m3 (And.intro m4 (And.intro hsome hgood.2.1)))))
        have hlt' : (k : Int) < (N : Int) := by omega
        clear R m2 m3 m4 hsome hgood cO hy hkl
        go_wp2_with (at_mapUpdate; refine wpList_mapUpdate_own _ rfl _ _ _ 34 rfl 3 3 law3 Tryd.underlying34 _ w3.heap.size k D0 rfl m1 (by unfold maxLen; omega) _ _ (.int .i64 y) rfl rfl (key3 (wfN hyb)) (i64D k) [] (plainElem_int Tryd.underlying3 (wfN (by omega))) ?_)
        intro w4 hown1 hgrow1
        have F := Lib.hid (R2.out.1.put hgrow1 (places_put (m1.tidy law3) R2.out.2.1 R2.out.2.2.1 R2.out.2.2.2.1 R2.out.2.2.2.2.1 R2.out.2.2.2.2.2 hown1))
        clear m1 hown1 hgrow1
        go_wp2
        go_roundw
        case rel => exact ⟨k + 1, by omega, by go_num, F.out⟩
        case measure => simp [intOf]; omega
      · obtain rfl : k = N := by omega
        have R2 := Lib.hid R
        clear R
        go_wp2_with fail
        refine (redges_in w.heap.size x k L wr ((((B.out.2.2.1.below C.out.1).below D.out).below R2.out.1)) B.out.2.2.2.2).mono ?_
        rintro e w5 ⟨v2, rfl, hb5, ho5⟩
        obtain ⟨O2, c2, hv2, hcell2⟩ := tris_cells ho5
        subst hv2
        have h0' : w5.cell? ⟨x, 0, none⟩ = some (.slice Ar k ca) := old_cell hb5 (old_cell R2.out.1 h0)
        obtain ⟨es2, hes2⟩ : ∃ es2, es2 = allE L k k := ⟨_, rfl⟩
        rw [← hes2] at hcell2 ⊢
        have HE := Lib.hid hes2
        have G := Lib.hid (And.intro hb5 (And.intro hcell2 (R2.out.2.keep hb5)))
        have hln : es2.length ≤ 100000 := by
          rw [hes2]
          have q1 := allE_length L k k
          have q3 : k * k ≤ 60 * 60 := Nat.mul_le_mul (by omega) (by omega)
          omega
        clear hb5 hcell2 ho5 hes2
        go_wp2_with fail
        go_loopw [65] (fun u wr => ∃ k : Nat, k ≤ es2.length ∧ u = .int .i64 k ∧ Below w5.heap.size w5 wr) (fun u _ => es2.length - (intOf u).toNat)
        case atStart => exact ⟨0, Nat.zero_le _, rfl, Below.refl _ _⟩
        case round =>
          obtain ⟨t, ht, rfl, hb6⟩ := hrel
          by_cases htl : t < es2.length
          · obtain ⟨⟨a, b, y⟩, hek⟩ : ∃ e, es2[t]? = some e := ⟨_, List.getElem?_eq_getElem htl⟩
            obtain ⟨gE, rfl, e1, e2, e3⟩ := G.out.2.1 t _ hek
            have f1 := old_cell hb6 e1
            have f2 := old_cell hb6 e2
            have f3 := old_cell hb6 e3
            have hmem := allE_mem (show (a, b, y) ∈ allE L k k by rw [← HE.out]; exact List.mem_iff_getElem?.2 ⟨t, hek⟩)
            have htl' : (t : Int) < (es2.length : Int) := by omega
            have hP : Places (wr.alloc (.cells #[.int .i64 (a : Nat), .int .i64 (b : Nat), .int .i64 (y : Nat)] 37)) w3.heap.size l k := (G.out.2.2.keep hb6).keep ((Below.refl _ _).alloc (Nat.le_refl _) _)
            have hb7 : Below w5.heap.size w5 (wr.alloc (.cells #[.int .i64 (a : Nat), .int .i64 (b : Nat), .int .i64 (y : Nat)] 37)) := hb6.alloc hb6.size _
            have hya : y = L a b := hmem.2.2
            have Z := Lib.hid (And.intro hb7 hP)
            cases hE : edge L c a b with
            | false =>
              have hE' := hE
              unfold edge at hE'
              rw [← hya] at hE'
              clear e1 e2 e3 hek hmem hP hb7 hb6 hya hE
              go_wp2
              go_roundw
              case rel => exact ⟨t + 1, by omega, by go_num, Z.out.1⟩
              case measure => simp [intOf]; omega
            | true =>
              have hE' := hE
              unfold edge at hE'
              rw [← hya] at hE'
              obtain ⟨j, i, hj, hi, hji⟩ := ordL_leads (E := edge L c) (n := sizeOf60 n) (by exact HB.out) (by rw [← HN.out]; exact hmem.1) (by rw [← HN.out]; exact hmem.2.1) hE
              rw [← HO.out] at hj hi
              have hjl := (List.getElem?_eq_some_iff.1 hj).1
              have hil := (List.getElem?_eq_some_iff.1 hi).1
              have hab : a < k ∧ b < k := ⟨hmem.1, hmem.2.1⟩
              have look1 := places_look hP (by rw [← HL.out]; exact hjl) hj (by omega)
              have look2 := places_look hP (by rw [← HL.out]; exact hil) hi (by omega)
              have hlt2 : (j : Int) < (i : Int) := by omega
              clear e1 e2 e3 hek hmem hP hb7 hb6 hya hE hj hi hjl hil
              go_wp2
              go_roundw
              case rel => exact ⟨t + 1, by omega, by go_num, Z.out.1⟩
              case measure => simp [intOf]; omega
          · obtain rfl : t = es2.length := by omega
            have Z := Lib.hid hb6
            have len1 := fun n => places_len ((G.out.2.2.keep hb6).keep (below_drewN' (Below.refl _ _) n))
            have h0'' := old_cell hb6 h0'
            have hkk : (((k : Nat) : Int) == ((k : Nat) : Int)) = true := by simp
            clear hb6
            go_wp2_with fail
            go_quiet (fail)
            go_wp2
            go_ret
            exact ⟨rfl, below_drewN' (below_then' B.out.1 (below_then' C.out.1 (below_then' D.out (below_then' R2.out.1 (below_then' G.out.1 Z.out))))) _⟩
  | false =>
    have HB := Lib.hid hB
    clear hB
    obtain ⟨O, c1, hv, hcell⟩ := own_cells (own_below2 C.out.2 D.out)
    subst hv
    obtain ⟨Ar, ca, h0⟩ := ((B.out.2.2.1.below C.out.1).below D.out).head
    have HL := Lib.hid (show (ordL (edge L c) (sizeOf60 n)) = [] by unfold ordL; have := HB.out; unfold ordB at this; cases h : ord (edge L c) (sizeOf60 n) (sizeOf60 n) [] with | none => rfl | some r => rw [h] at this; cases this)
    rw [HL.out]
    have hb3m : Below w3.heap.size w3 (w3.alloc (.map #[] 0)) := (Below.refl _ _).alloc (Nat.le_refl _) _
    have M := Lib.hid hb3m
    clear hb3m
    go_wp2_with fail
    go_loopw [53] (fun u wr => u = .int .i64 0 ∧ wr = w3.alloc (.map #[] 0)) (fun u _ => 0)
    case atStart => exact ⟨rfl, rfl⟩
    case round =>
      obtain ⟨rfl, rfl⟩ := hrel
      go_wp2_with fail
      refine (redges_in w.heap.size x (sizeOf60 n) L _ ((((B.out.2.2.1.below C.out.1).below D.out).below M.out)) B.out.2.2.2.2).mono ?_
      rintro e w5 ⟨v2, rfl, hb5, ho5⟩
      obtain ⟨O2, c2, hv2, hcell2⟩ := tris_cells ho5
      subst hv2
      obtain ⟨es2, hes2⟩ : ∃ es2, es2 = allE L (sizeOf60 n) (sizeOf60 n) := ⟨_, rfl⟩
      rw [← hes2] at hcell2 ⊢
      have HE := Lib.hid hes2
      have G := Lib.hid (And.intro hb5 hcell2)
      have hln : es2.length ≤ 100000 := by
        rw [hes2]
        have q1 := allE_length L (sizeOf60 n) (sizeOf60 n)
        have q3 : sizeOf60 n * sizeOf60 n ≤ 60 * 60 := Nat.mul_le_mul (by omega) (by omega)
        omega
      clear hb5 hcell2 ho5 hes2
      go_wp2_with fail
      go_loopw [65] (fun u wr => ∃ k : Nat, k ≤ es2.length ∧ u = .int .i64 k ∧ Below w5.heap.size w5 wr) (fun u _ => es2.length - (intOf u).toNat)
      case atStart => exact ⟨0, Nat.zero_le _, rfl, Below.refl _ _⟩
      case round =>
        obtain ⟨t, ht, rfl, hb6⟩ := hrel
        by_cases htl : t < es2.length
        · obtain ⟨⟨a, b, y⟩, hek⟩ : ∃ e, es2[t]? = some e := ⟨_, List.getElem?_eq_getElem htl⟩
          obtain ⟨gE, rfl, e1, e2, e3⟩ := G.out.2 t _ hek
          have f1 := old_cell hb6 e1
          have f2 := old_cell hb6 e2
          have f3 := old_cell hb6 e3
          have htl' : (t : Int) < (es2.length : Int) := by omega
          have hb7 : Below w5.heap.size w5 (wr.alloc (.cells #[.int .i64 (a : Nat), .int .i64 (b : Nat), .int .i64 (y : Nat)] 37)) := hb6.alloc hb6.size _
          have Z := Lib.hid hb7
          clear e1 e2 e3 hek hb7 hb6
          go_wp2
          go_roundw
          case rel => exact ⟨t + 1, by omega, by go_num, Z.out⟩
          case measure => simp [intOf]; omega
        · obtain rfl : t = es2.length := by omega
          have Z := Lib.hid hb6
          clear hb6
          go_wp2_with fail
          go_quiet (fail)
          go_wp2
          go_ret
          exact ⟨rfl, below_drewN' (below_then' B.out.1 (below_then' C.out.1 (below_then' D.out (below_then' M.out (below_then' G.out.1 Z.out))))) _⟩
end Go.Proofs.YtcfbcfcoigifiaaDoor
