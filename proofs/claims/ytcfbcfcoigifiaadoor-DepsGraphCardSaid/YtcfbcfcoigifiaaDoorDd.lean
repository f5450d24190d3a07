/- 'm[k] |= v': the entry may be made ahead of the look-up. -/
import Derived.WideKeyEntry
import Derived.WideKeyPair
import Derived.DeepKeys4
import Derived.Maps.OwnSet
import Derived.Test.YtcfbcfcoigifiaaDoorDc
set_option linter.unusedVariables false
set_option linter.unusedSimpArgs false
namespace Go.Proofs.YtcfbcfcoigifiaaDoor
open Go.RowKit Go.Maps Go.ChangeMaps
open Go.WideElems (Fit entry_then_store)
open Go.WideMaps (KeyLaw ArrKey keyOf_pair)

theorem setBlock_self {w : World} {b : Nat} {o : Obj} (hb : w.heap[b]? = some o) : setBlock w b o = w := by
  have e : w.heap.setIfInBounds b o = w.heap := by
    apply Array.ext_getElem?
    intro i
    rw [Array.getElem?_setIfInBounds]
    split
    · rename_i h
      subst h
      split
      · exact hb.symm
      · rename_i hn; simp at hn; rw [Array.getElem?_eq_none hn] at hb; cases hb
    · rfl
  unfold setBlock
  rw [e]
theorem setBlock_twice (w : World) (b : Nat) (o o' : Obj) : setBlock (setBlock w b o) b o' = setBlock w b o' := by simp [setBlock]

section
variable {H : Type} {P : Program} {w : World} {t k e : TypeId} {R : Value → Option (DataW H × List MemPlace)} {b : Nat} {es : Array MapEntry} {clock : Nat}
theorem op_assign (K : KeyLaw P k) (ht : P.underlying t = some (.map k e)) {z : Value} (hz : ∀ u : World, (zeroValue e).run P u = .ok z u) (hb : w.heap[b]? = some (.map es clock)) (F : Fit P k R es clock)
    {key : Value} {kl : Lit} (hkey : keyOf P k key = some kl) :
    ∃ (v0 : Value) (st : Nat) (w1 : World), (Instr.mapEntry t (.map (some b)) key).run P w = .ok (.tuple #[v0, goInt st]) w1 ∧ (Instr.lookup t (.map (some b)) key false).run P w = .ok v0 w ∧
      (Instr.lookup t (.map (some b)) key false).run P w1 = .ok v0 w1 ∧ (∃ es1 clock1, w1 = setBlock w b (.map es1 clock1)) ∧
      ∀ val : Value, ∃ w2, (Instr.entryStore t (.map (some b)) (goInt st) val).run P w1 = .ok () w2 ∧ (Instr.mapUpdate t (.map (some b)) key val).run P w = .ok () w2 := by
  obtain ⟨v0, st, es1, clock1, hE, _, hS⟩ := entry_then_store K ht hz hb F hkey
  have hst : ∀ val : Value, ∃ w2, (Instr.entryStore t (.map (some b)) (goInt st) val).run P (setBlock w b (.map es1 clock1)) = .ok () w2 ∧ (Instr.mapUpdate t (.map (some b)) key val).run P w = .ok () w2 := fun val => by
    obtain ⟨es', clock', h1, h2⟩ := hS (setBlock w b (.map es1 clock1)) val (heap_setBlock_same hb _)
    rw [setBlock_twice] at h1
    exact ⟨_, h1, h2⟩
  rcases K.find w hkey es.toList F.keys with ⟨h1, h2⟩ | ⟨j, e0, h1, h2, h3⟩
  · have hE' : (Instr.mapEntry t (.map (some b)) key).run P w = .ok (.tuple #[z, goInt clock]) (setBlock w b (.map (es.push ⟨key, z, clock⟩) (clock + 1))) := by
      simp [Instr.mapEntry, run_underlying ht, MapKept.run_getObj_map hb, K.check w false hkey, h1, hz, MapKept.run_setObj_map _ hb, Result.andThen, setBlock]
    have heq := hE.symm.trans hE'
    injection heq with ev ew
    injection ev with ev
    have ev0 : v0 = z := by
      have := congrArg (fun a => a[0]?) ev
      simpa using this
    refine ⟨v0, st, _, hE, ?_, ?_, ⟨_, _, rfl⟩, hst⟩
    · rw [ev0]
      simp [Instr.lookup, run_underlying ht, MapKept.run_getObj_map hb, K.check w _ hkey, h1, hz, Result.andThen]
    · rw [ev0, ew]
      obtain ⟨w1, hw1⟩ : ∃ w1, w1 = setBlock w b (.map (es.push ⟨key, z, clock⟩) (clock + 1)) := ⟨_, rfl⟩
      have hb1 : w1.heap[b]? = some (.map (es.push ⟨key, z, clock⟩) (clock + 1)) := by rw [hw1]; exact heap_setBlock_same hb _
      rw [← hw1]
      rcases K.find w1 hkey (es.push ⟨key, z, clock⟩).toList (fun x hx => by
          simp only [Array.toList_push, List.mem_append, List.mem_singleton] at hx
          rcases hx with hx | rfl
          · exact F.keys x hx
          · exact ⟨_, hkey⟩) with ⟨f1, f2⟩ | ⟨j, e1, f1, f2, f3⟩
      · exact absurd rfl (f2 ⟨key, z, clock⟩ (by simp))
      · have hm := List.mem_of_getElem? f2
        simp only [Array.toList_push, List.mem_append, List.mem_singleton] at hm
        rcases hm with hm | rfl
        · exact absurd f3 (h2 e1 hm)
        · rw [Array.toList_push] at f1
          simp [Instr.lookup, run_underlying ht, MapKept.run_getObj_map hb1, K.check w1 _ hkey, f1, Result.andThen]
  · have hj : es[j]? = some e0 := by simpa using h2
    have hL : (Instr.lookup t (.map (some b)) key false).run P w = .ok e0.val w := by
      simp [Instr.lookup, run_underlying ht, MapKept.run_getObj_map hb, K.check w _ hkey, h1, Result.andThen]
    have hsame : es.modify j (fun e => { e with key := key }) = es := by
      apply Array.ext'
      rw [Array.toList_modify, modify_eq_set _ _ _ _ h2]
      have : ({ e0 with key := key } : MapEntry) = e0 := by rw [← h3]
      rw [this]
      exact WideElems.set_self _ _ _ h2
    have hE' : (Instr.mapEntry t (.map (some b)) key).run P w = .ok (.tuple #[e0.val, goInt e0.born]) (setBlock w b (.map es clock)) := by
      simp [Instr.mapEntry, run_underlying ht, MapKept.run_getObj_map hb, K.check w false hkey, h1, hj, h3, K.stays w hkey, hsame, MapKept.run_setObj_map _ hb, Result.andThen, setBlock]
    have heq := hE.symm.trans hE'
    injection heq with ev ew
    injection ev with ev
    have ev0 : v0 = e0.val := by
      have := congrArg (fun a => a[0]?) ev
      simpa using this
    rw [setBlock_self hb] at ew
    refine ⟨v0, st, _, hE, by rw [ev0]; exact hL, by rw [ev0, ew]; exact hL, ⟨_, _, rfl⟩, hst⟩
end
end Go.Proofs.YtcfbcfcoigifiaaDoor
