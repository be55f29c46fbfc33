/- Functions of the library over slices. -/
import Derived.Test.YtlkgjffffeohdaaGreatDisk4
set_option linter.unusedVariables false
set_option linter.unusedSimpArgs false
namespace Go.Proofs.YtlkgjffffeohdaaGreat
open Go Go.Eng Go.Proofs

theorem RdS_get {H : HV} {b off n m c : Nat} {vs : List Value} (h : RdS H 1 n (.slice (some ⟨b, off, none⟩) m c) vs) (i : Nat) (hi : i < n) (hl : i < vs.length) : RdC H b (off + (i : Int).toNat * 1) vs[i] := by
  have e : off + (i : Int).toNat * 1 = off + i := by simp
  rw [e]
  obtain ⟨arr, ty, fr, h1, h2, rfl⟩ := h
  refine ⟨arr, ty, fr, h1, ?_⟩
  have hlt : off + i < arr.size := by omega
  rw [Array.getElem?_eq_getElem hlt]
  congr 1
  simp

theorem RdS_some {H : HV} {a : Option Addr} {n m c : Nat} {vs : List Value} (h : RdS H 1 n (.slice a m c) vs) (hl : vs.length = n) (hn : 0 < n) : ∃ b off, a = some ⟨b, off, none⟩ := by
  unfold RdS at h
  split at h
  · rename_i b off _ _ heq; cases heq; exact ⟨b, off, rfl⟩
  · subst h; simp at hl; omega
  · rename_i heq; cases heq
  · exact h.elim

def idxP (p : Value → Bool) (vs : List Value) : Int := if vs.findIdx p < vs.length then (vs.findIdx p : Int) else -1

theorem idxP_some {p : Value → Bool} {vs : List Value} {i : Nat} (hi : i < vs.length) (h1 : p vs[i] = true) (h2 : ∀ j, j < i → ∀ h : j < vs.length, p vs[j] = false) : idxP p vs = i := by
  have : vs.findIdx p = i := (List.findIdx_eq hi).2 ⟨h1, fun j hj => h2 j hj (by omega)⟩
  unfold idxP; rw [this, if_pos hi]

theorem idxP_none {p : Value → Bool} {vs : List Value} (h2 : ∀ j, ∀ h : j < vs.length, p vs[j] = false) : idxP p vs = -1 := by
  have : vs.findIdx p = vs.length := List.findIdx_eq_length.2 (fun x hx => by obtain ⟨j, hj, rfl⟩ := List.getElem_of_mem hx; exact h2 j hj)
  unfold idxP; rw [this, if_neg (Nat.lt_irrefl _)]

theorem idxP_neg {p : Value → Bool} {vs : List Value} : (0 ≤ idxP p vs) ↔ vs.any p = true := by
  have hh : vs.findIdx p < vs.length ↔ ∃ x ∈ vs, p x = true := List.findIdx_lt_length
  unfold idxP
  split
  · rename_i h
    constructor
    · intro _; obtain ⟨x, hx, hp⟩ := hh.1 h; exact List.any_eq_true.2 ⟨x, hx, hp⟩
    · intro _; omega
  · rename_i h
    constructor
    · intro h2; omega
    · intro h2; obtain ⟨x, hx, hp⟩ := List.any_eq_true.1 h2; exact (h (hh.2 ⟨x, hx, hp⟩)).elim

theorem indexI_ok {H : HV} {a : Option Addr} {n c : Nat} {vs : List Value} {g : Nat} {ca : List Value} (p : Value → Bool) (w : World) (hs : ∀ i o, H i = some o → w.heap[i]? = some o) (hv : RdS H 1 n (.slice a n c) vs) (hl : vs.length = n) (hn : n < 4611686018427387904)
    (hg : hasB Tryz.prog g = true) (hp : ∀ v ∈ vs, ∀ w, (∀ i o, H i = some o → w.heap[i]? = some o) → Calls Tryz.prog g ([] ++ ([v] ++ ca)).toArray w (RetP (.bool (p v)) w)) :
    Calls Tryz.prog 306 #[.slice a n c, .func (.func g) #[] ⟨ca⟩] w (RetP (iV (idxP p vs)) w) := by
  refine fn_pure (args := [.slice a n c, .func (.func g) #[] ⟨ca⟩]) tabH Tryz.func306 rfl (by kernel_rfl)  hs ?_
  (conv => whnf); repeat first | (refine drw (by decide +kernel) ?_; conv => whnf) | (refine fun (_ : Nat) (_ : _ ≤ _) (_ : _ = none) => ?_; conv => whnf)
  refine VLoop.ok (X := Nat) (fun i => [(8, .v (iV i)), (7, .v (iV n)), (0, .v (.slice a n c)), (1, .v (.func (.func g) #[] ⟨ca⟩)), (4, .v (iV 0))]) (fun _ => H)
    (fun i => i ≤ n ∧ ∀ j, j < i → ∀ h : j < vs.length, p vs[j] = false) (fun i => n - i) tabH (by kernel_rfl) rfl (fun _ => rfl) 0 ⟨Nat.zero_le _, fun j hj => by omega⟩ ⟨rfl, rfl, rfl, rfl, rfl, trivial⟩ rfl ?_
  rintro i ⟨hi, hall⟩
  (conv => whnf); repeat first | (refine drw (by decide +kernel) ?_; conv => whnf) | (refine fun (_ : Nat) (_ : _ ≤ _) (_ : _ = none) => ?_; conv => whnf)
  refine vif_dec (fun h1 => ?_) (fun h1 => ?_)
  · have hlt : i < n := by omega
    obtain ⟨b, off, rfl⟩ := RdS_some hv hl (by omega)
    (conv => whnf); repeat first | (refine drw (by decide +kernel) ?_; conv => whnf) | (refine fun (_ : Nat) (_ : _ ≤ _) (_ : _ = none) => ?_; conv => whnf)
    refine ⟨by omega, ?_⟩
    (conv => whnf); repeat first | (refine drw (by decide +kernel) ?_; conv => whnf) | (refine fun (_ : Nat) (_ : _ ≤ _) (_ : _ = none) => ?_; conv => whnf)
    refine ⟨_, RdS_get hv i hlt (by omega), ?_⟩
    (conv => whnf); repeat first | (refine drw (by decide +kernel) ?_; conv => whnf) | (refine fun (_ : Nat) (_ : _ ≤ _) (_ : _ = none) => ?_; conv => whnf)
    refine VCall.pure_ hg (fun w hs => hp _ (List.getElem_mem _) w hs) ?_
    (conv => whnf); repeat first | (refine drw (by decide +kernel) ?_; conv => whnf) | (refine fun (_ : Nat) (_ : _ ≤ _) (_ : _ = none) => ?_; conv => whnf)
    refine vif_intro (fun h2 => ?_) (fun h2 => ?_)
    · (conv => whnf); repeat first | (refine drw (by decide +kernel) ?_; conv => whnf) | (refine fun (_ : Nat) (_ : _ ≤ _) (_ : _ = none) => ?_; conv => whnf)
      rw [idxP_some (by omega) h2 hall]
    · (conv => whnf); repeat first | (refine drw (by decide +kernel) ?_; conv => whnf) | (refine fun (_ : Nat) (_ : _ ≤ _) (_ : _ = none) => ?_; conv => whnf)
      refine ⟨i + 1, ⟨by omega, fun j hj h => ?_⟩, by omega, ⟨?_, rfl, rfl, rfl, rfl, trivial⟩, ⟨[], rfl⟩, rfl⟩
      · rcases Nat.lt_succ_iff_lt_or_eq.1 hj with h3 | h3
        · exact hall j h3 h
        · subst h3; exact h2
      · show some (SV.v (.int .i64 (IntKind.wrap .i64 ((i : Int) + 1)))) = _
        rw [wrap64 (by omega)]; rfl
  · (conv => whnf); repeat first | (refine drw (by decide +kernel) ?_; conv => whnf) | (refine fun (_ : Nat) (_ : _ ≤ _) (_ : _ = none) => ?_; conv => whnf)
    rw [idxP_none (fun j hj => hall j (by omega) hj)]; rfl
theorem indexC_ok {H : HV} {a : Option Addr} {n c : Nat} {vs : List Value} {g : Nat} {ca : List Value} (p : Value → Bool) (w : World) (hs : ∀ i o, H i = some o → w.heap[i]? = some o) (hv : RdS H 1 n (.slice a n c) vs) (hl : vs.length = n) (hn : n < 4611686018427387904)
    (hg : hasB Tryz.prog g = true) (hp : ∀ v ∈ vs, ∀ w, (∀ i o, H i = some o → w.heap[i]? = some o) → Calls Tryz.prog g ([] ++ ([v] ++ ca)).toArray w (RetP (.bool (p v)) w)) :
    Calls Tryz.prog 236 #[.slice a n c, .func (.func g) #[] ⟨ca⟩] w (RetP (iV (idxP p vs)) w) := by
  refine fn_pure (args := [.slice a n c, .func (.func g) #[] ⟨ca⟩]) tabH Tryz.func236 rfl (by kernel_rfl)  hs ?_
  (conv => whnf); repeat first | (refine drw (by decide +kernel) ?_; conv => whnf) | (refine fun (_ : Nat) (_ : _ ≤ _) (_ : _ = none) => ?_; conv => whnf)
  refine VLoop.ok (X := Nat) (fun i => [(8, .v (iV i)), (7, .v (iV n)), (0, .v (.slice a n c)), (1, .v (.func (.func g) #[] ⟨ca⟩)), (4, .v (iV 0))]) (fun _ => H)
    (fun i => i ≤ n ∧ ∀ j, j < i → ∀ h : j < vs.length, p vs[j] = false) (fun i => n - i) tabH (by kernel_rfl) rfl (fun _ => rfl) 0 ⟨Nat.zero_le _, fun j hj => by omega⟩ ⟨rfl, rfl, rfl, rfl, rfl, trivial⟩ rfl ?_
  rintro i ⟨hi, hall⟩
  (conv => whnf); repeat first | (refine drw (by decide +kernel) ?_; conv => whnf) | (refine fun (_ : Nat) (_ : _ ≤ _) (_ : _ = none) => ?_; conv => whnf)
  refine vif_dec (fun h1 => ?_) (fun h1 => ?_)
  · have hlt : i < n := by omega
    obtain ⟨b, off, rfl⟩ := RdS_some hv hl (by omega)
    (conv => whnf); repeat first | (refine drw (by decide +kernel) ?_; conv => whnf) | (refine fun (_ : Nat) (_ : _ ≤ _) (_ : _ = none) => ?_; conv => whnf)
    refine ⟨by omega, ?_⟩
    (conv => whnf); repeat first | (refine drw (by decide +kernel) ?_; conv => whnf) | (refine fun (_ : Nat) (_ : _ ≤ _) (_ : _ = none) => ?_; conv => whnf)
    refine ⟨_, RdS_get hv i hlt (by omega), ?_⟩
    (conv => whnf); repeat first | (refine drw (by decide +kernel) ?_; conv => whnf) | (refine fun (_ : Nat) (_ : _ ≤ _) (_ : _ = none) => ?_; conv => whnf)
    refine VCall.pure_ hg (fun w hs => hp _ (List.getElem_mem _) w hs) ?_
    (conv => whnf); repeat first | (refine drw (by decide +kernel) ?_; conv => whnf) | (refine fun (_ : Nat) (_ : _ ≤ _) (_ : _ = none) => ?_; conv => whnf)
    refine vif_intro (fun h2 => ?_) (fun h2 => ?_)
    · (conv => whnf); repeat first | (refine drw (by decide +kernel) ?_; conv => whnf) | (refine fun (_ : Nat) (_ : _ ≤ _) (_ : _ = none) => ?_; conv => whnf)
      rw [idxP_some (by omega) h2 hall]
    · (conv => whnf); repeat first | (refine drw (by decide +kernel) ?_; conv => whnf) | (refine fun (_ : Nat) (_ : _ ≤ _) (_ : _ = none) => ?_; conv => whnf)
      refine ⟨i + 1, ⟨by omega, fun j hj h => ?_⟩, by omega, ⟨?_, rfl, rfl, rfl, rfl, trivial⟩, ⟨[], rfl⟩, rfl⟩
      · rcases Nat.lt_succ_iff_lt_or_eq.1 hj with h3 | h3
        · exact hall j h3 h
        · subst h3; exact h2
      · show some (SV.v (.int .i64 (IntKind.wrap .i64 ((i : Int) + 1)))) = _
        rw [wrap64 (by omega)]; rfl
  · (conv => whnf); repeat first | (refine drw (by decide +kernel) ?_; conv => whnf) | (refine fun (_ : Nat) (_ : _ ≤ _) (_ : _ = none) => ?_; conv => whnf)
    rw [idxP_none (fun j hj => hall j (by omega) hj)]; rfl
theorem indexL_ok {H : HV} {a : Option Addr} {n c : Nat} {vs : List Value} {g : Nat} {ca : List Value} (p : Value → Bool) (w : World) (hs : ∀ i o, H i = some o → w.heap[i]? = some o) (hv : RdS H 1 n (.slice a n c) vs) (hl : vs.length = n) (hn : n < 4611686018427387904)
    (hg : hasB Tryz.prog g = true) (hp : ∀ v ∈ vs, ∀ w, (∀ i o, H i = some o → w.heap[i]? = some o) → Calls Tryz.prog g ([] ++ ([v] ++ ca)).toArray w (RetP (.bool (p v)) w)) :
    Calls Tryz.prog 272 #[.slice a n c, .func (.func g) #[] ⟨ca⟩] w (RetP (iV (idxP p vs)) w) := by
  refine fn_pure (args := [.slice a n c, .func (.func g) #[] ⟨ca⟩]) tabH Tryz.func272 rfl (by kernel_rfl)  hs ?_
  (conv => whnf); repeat first | (refine drw (by decide +kernel) ?_; conv => whnf) | (refine fun (_ : Nat) (_ : _ ≤ _) (_ : _ = none) => ?_; conv => whnf)
  refine VLoop.ok (X := Nat) (fun i => [(8, .v (iV i)), (7, .v (iV n)), (0, .v (.slice a n c)), (1, .v (.func (.func g) #[] ⟨ca⟩)), (4, .v (iV 0))]) (fun _ => H)
    (fun i => i ≤ n ∧ ∀ j, j < i → ∀ h : j < vs.length, p vs[j] = false) (fun i => n - i) tabH (by kernel_rfl) rfl (fun _ => rfl) 0 ⟨Nat.zero_le _, fun j hj => by omega⟩ ⟨rfl, rfl, rfl, rfl, rfl, trivial⟩ rfl ?_
  rintro i ⟨hi, hall⟩
  (conv => whnf); repeat first | (refine drw (by decide +kernel) ?_; conv => whnf) | (refine fun (_ : Nat) (_ : _ ≤ _) (_ : _ = none) => ?_; conv => whnf)
  refine vif_dec (fun h1 => ?_) (fun h1 => ?_)
  · have hlt : i < n := by omega
    obtain ⟨b, off, rfl⟩ := RdS_some hv hl (by omega)
    (conv => whnf); repeat first | (refine drw (by decide +kernel) ?_; conv => whnf) | (refine fun (_ : Nat) (_ : _ ≤ _) (_ : _ = none) => ?_; conv => whnf)
    refine ⟨by omega, ?_⟩
    (conv => whnf); repeat first | (refine drw (by decide +kernel) ?_; conv => whnf) | (refine fun (_ : Nat) (_ : _ ≤ _) (_ : _ = none) => ?_; conv => whnf)
    refine ⟨_, RdS_get hv i hlt (by omega), ?_⟩
    (conv => whnf); repeat first | (refine drw (by decide +kernel) ?_; conv => whnf) | (refine fun (_ : Nat) (_ : _ ≤ _) (_ : _ = none) => ?_; conv => whnf)
    refine VCall.pure_ hg (fun w hs => hp _ (List.getElem_mem _) w hs) ?_
    (conv => whnf); repeat first | (refine drw (by decide +kernel) ?_; conv => whnf) | (refine fun (_ : Nat) (_ : _ ≤ _) (_ : _ = none) => ?_; conv => whnf)
    refine vif_intro (fun h2 => ?_) (fun h2 => ?_)
    · (conv => whnf); repeat first | (refine drw (by decide +kernel) ?_; conv => whnf) | (refine fun (_ : Nat) (_ : _ ≤ _) (_ : _ = none) => ?_; conv => whnf)
      rw [idxP_some (by omega) h2 hall]
    · (conv => whnf); repeat first | (refine drw (by decide +kernel) ?_; conv => whnf) | (refine fun (_ : Nat) (_ : _ ≤ _) (_ : _ = none) => ?_; conv => whnf)
      refine ⟨i + 1, ⟨by omega, fun j hj h => ?_⟩, by omega, ⟨?_, rfl, rfl, rfl, rfl, trivial⟩, ⟨[], rfl⟩, rfl⟩
      · rcases Nat.lt_succ_iff_lt_or_eq.1 hj with h3 | h3
        · exact hall j h3 h
        · subst h3; exact h2
      · show some (SV.v (.int .i64 (IntKind.wrap .i64 ((i : Int) + 1)))) = _
        rw [wrap64 (by omega)]; rfl
  · (conv => whnf); repeat first | (refine drw (by decide +kernel) ?_; conv => whnf) | (refine fun (_ : Nat) (_ : _ ≤ _) (_ : _ = none) => ?_; conv => whnf)
    rw [idxP_none (fun j hj => hall j (by omega) hj)]; rfl

theorem containsC_ok {H : HV} {a : Option Addr} {n c : Nat} {vs : List Value} {g : Nat} {ca : List Value} (p : Value → Bool) (w : World) (hs : ∀ i o, H i = some o → w.heap[i]? = some o) (hv : RdS H 1 n (.slice a n c) vs) (hl : vs.length = n) (hn : n < 4611686018427387904)
    (hg : hasB Tryz.prog g = true) (hp : ∀ v ∈ vs, ∀ w, (∀ i o, H i = some o → w.heap[i]? = some o) → Calls Tryz.prog g ([] ++ ([v] ++ ca)).toArray w (RetP (.bool (p v)) w)) :
    Calls Tryz.prog 233 #[.slice a n c, .func (.func g) #[] ⟨ca⟩] w (RetP (bV (vs.any p)) w) := by
  refine fn_pure (args := [.slice a n c, .func (.func g) #[] ⟨ca⟩]) tabH Tryz.func233 rfl (by kernel_rfl)  hs ?_
  (conv => whnf); repeat first | (refine drw (by decide +kernel) ?_; conv => whnf) | (refine fun (_ : Nat) (_ : _ ≤ _) (_ : _ = none) => ?_; conv => whnf)
  (refine VCall.pure_ (by kernel_rfl) (fun w hs => indexC_ok p w hs hv hl hn hg hp) ?_); (conv => whnf); repeat first | (refine drw (by decide +kernel) ?_; conv => whnf) | (refine fun (_ : Nat) (_ : _ ≤ _) (_ : _ = none) => ?_; conv => whnf)
  have : decide (idxP p vs ≥ 0) = vs.any p := by rw [Bool.eq_iff_iff, decide_eq_true_iff]; exact idxP_neg
  exact congrArg Value.bool this
theorem containsL_ok {H : HV} {a : Option Addr} {n c : Nat} {vs : List Value} {g : Nat} {ca : List Value} (p : Value → Bool) (w : World) (hs : ∀ i o, H i = some o → w.heap[i]? = some o) (hv : RdS H 1 n (.slice a n c) vs) (hl : vs.length = n) (hn : n < 4611686018427387904)
    (hg : hasB Tryz.prog g = true) (hp : ∀ v ∈ vs, ∀ w, (∀ i o, H i = some o → w.heap[i]? = some o) → Calls Tryz.prog g ([] ++ ([v] ++ ca)).toArray w (RetP (.bool (p v)) w)) :
    Calls Tryz.prog 214 #[.slice a n c, .func (.func g) #[] ⟨ca⟩] w (RetP (bV (vs.any p)) w) := by
  refine fn_pure (args := [.slice a n c, .func (.func g) #[] ⟨ca⟩]) tabH Tryz.func214 rfl (by kernel_rfl)  hs ?_
  (conv => whnf); repeat first | (refine drw (by decide +kernel) ?_; conv => whnf) | (refine fun (_ : Nat) (_ : _ ≤ _) (_ : _ = none) => ?_; conv => whnf)
  (refine VCall.pure_ (by kernel_rfl) (fun w hs => indexL_ok p w hs hv hl hn hg hp) ?_); (conv => whnf); repeat first | (refine drw (by decide +kernel) ?_; conv => whnf) | (refine fun (_ : Nat) (_ : _ ≤ _) (_ : _ = none) => ?_; conv => whnf)
  have : decide (idxP p vs ≥ 0) = vs.any p := by rw [Bool.eq_iff_iff, decide_eq_true_iff]; exact idxP_neg
  exact congrArg Value.bool this
end Go.Proofs.YtlkgjffffeohdaaGreat
