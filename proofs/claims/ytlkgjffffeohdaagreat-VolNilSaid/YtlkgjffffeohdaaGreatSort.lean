/- The library's sort, in the words of these texts. -/
import Derived.Test.YtlkgjffffeohdaaGreatDisk2
import Derived.Test.YtlkgjffffeohdaaGreatSortL
import Derived.Shelf.Slices.In.SortNone
set_option linter.unusedVariables false
set_option linter.unusedSimpArgs false
namespace Go.Proofs.YtlkgjffffeohdaaGreat
open Go Go.Eng Go.Proofs

def sortZ (ns : List Int) : List Int := ns.mergeSort fun x y => decide (x ≤ y)

theorem sort_ok {H : HV} {b : Option Nat} {n c : Nat} {ns : List Int} (w : World) (hs : ∀ i o, H i = some o → w.heap[i]? = some o) (ho : OS H 3 1 b n c (intsV ns)) (hn : n < 4611686018427387904) :
    Calls Tryz.prog 186 #[slV b n c] w (Ret H (fun i => b = some i) (fun v H1 => v = .tuple #[] ∧ OS H1 3 1 b n c (intsV (sortZ ns))) w) := by
  have hlen : ns.length = n := by have := ho.len; simpa [intsV] using this
  have hsl : (sortZ ns).length = n := by unfold sortZ; rw [List.length_mergeSort, hlen]
  cases b with
  | none =>
    have hc : c = 0 := ho.out
    have h0 : n = 0 := by have := ho.le; omega
    subst h0
    have hns : ns = [] := List.length_eq_zero_iff.1 hlen
    subst hns
    refine (Any.slices_Sort_int_none Tryz.lays189 none c w).mono ?_
    rintro e w' ⟨rfl, rfl⟩
    refine ⟨_, H, rfl, ⟨rfl, rfl, rfl, Nat.le_refl _, fun _ _ _ => rfl⟩, hs, fun i o hi => .inl (by rw [hi]; simp), fun i o hi _ => hi, rfl, (by rw [show sortZ [] = [] from by simp [sortZ]]; exact ho)⟩
  | some r =>
    obtain ⟨arr, g1, g2, g3⟩ := ho.out
    have hw := hs _ _ g1
    have hle := ho.le
    have hHolds : Go.Sort.Holds (Value.int .i64) w r 0 ns.toArray := by
      intro j hj
      have hj : j < ns.length := hj
      have hja : j < arr.size := by rw [g2]; omega
      have e : arr[j]? = some (.int .i64 ns[j]) := by
        have h1 : (intsV ns)[j]? = some (.int .i64 ns[j]) := by simp [intsV, List.getElem?_eq_getElem hj]
        rw [g3, Nat.mul_one, List.getElem?_take_of_lt (by omega)] at h1
        simpa using h1
      refine ⟨?_, ?_⟩
      · simp only [World.cell?, hw, Nat.zero_add]
        rw [e]
        simp [hj]
      · simp [World.frozen?, hw]
    subst hlen
    refine (Tryz.slices_Sort_int r 0 c ns w hHolds (Array.getElem?_eq_some_iff.1 hw).1 hn).mono ?_
    rintro e w' ⟨rfl, k, os, rfl⟩
    have heap' : ∀ i, i < w.heap.size → (Go.Sort.grow (Go.Sort.putRow (Value.int .i64) (Go.Sort.ahead w k) r 0 (sortZ ns).toArray) os).heap[i]? = if i = r then some (.cells (Go.Sort.putCells (Value.int .i64) 0 (sortZ ns).toArray arr) 3 (0, 0)) else w.heap[i]? := by
      intro i hi
      show ((w.heap.modify r _) ++ os)[i]? = _
      rw [Array.getElem?_append_left (by rw [Array.size_modify]; exact hi), Array.getElem?_modify]
      by_cases e : r = i
      · subst e; rw [if_pos rfl, if_pos rfl, hw]; rfl
      · rw [if_neg e, if_neg (fun h => e h.symm)]
    have hrlt := (Array.getElem?_eq_some_iff.1 hw).1
    refine ⟨_, fun i => if i = r then some (.cells (Go.Sort.putCells (Value.int .i64) 0 (sortZ ns).toArray arr) 3 (0, 0)) else H i, rfl, ⟨rfl, rfl, rfl, ?_, fun i hi hM => ?_⟩, fun i o hi => ?_, fun i o hi => ?_, fun i o hi hM => ?_, rfl, ho.len.trans (by simp) |>.symm.trans ?_ |>.symm, ho.le, _, if_pos rfl, ?_, ?_⟩
    · show _ ≤ ((w.heap.modify r _) ++ os).size
      rw [Array.size_append, Array.size_modify]; omega
    · exact (heap' i hi).trans (if_neg (fun e => hM (by rw [e])))
    · dsimp only at hi
      split at hi
      · rename_i e
        subst e
        exact (heap' _ hrlt).trans ((if_pos rfl).trans hi)
      · rename_i e
        have := hs _ _ hi
        exact (heap' _ (Array.getElem?_eq_some_iff.1 this).1).trans ((if_neg e).trans this)
    · left
      dsimp only at hi
      split at hi
      · rename_i e; subst e; rw [g1]; simp
      · rw [hi]; simp
    · dsimp only
      rw [if_neg (fun e => hM (by rw [e]))]; exact hi
    · simp [intsV, hsl]
    · rw [← g2]; simp [Go.Sort.putCells]
    · have hps : (Go.Sort.putCells (Value.int .i64) 0 (sortZ ns).toArray arr).size = arr.size := by simp [Go.Sort.putCells]
      apply List.ext_getElem
      · simp [intsV, hsl, hps, g2]; omega
      · intro j h1 h2
        have hj : j < (sortZ ns).length := by simpa [intsV] using h1
        have hja : j < arr.size := by rw [g2]; omega
        simp only [intsV, List.getElem_map, List.getElem_take, Array.getElem_toList, Go.Sort.putCells, Array.getElem_mapIdx]
        rw [if_pos (by constructor; omega; simpa using hj)]
        simp [hj]
end Go.Proofs.YtlkgjffffeohdaaGreat
