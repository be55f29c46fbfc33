/- Functions of the library that make or change slices. -/
import Derived.Test.YtlkgjffffeohdaaGreatSlices
set_option linter.unusedVariables false
set_option linter.unusedSimpArgs false
namespace Go.Proofs.YtlkgjffffeohdaaGreat
open Go Go.Eng Go.Proofs

theorem take_filter_succ {vs : List Value} (p : Value → Bool) {j : Nat} (hj : j < vs.length) : (vs.take (j + 1)).filter (fun v => !p v) = (vs.take j).filter (fun v => !p v) ++ (if p vs[j] then [] else [vs[j]]) := by
  rw [List.take_succ_eq_append_getElem hj, List.filter_append]
  cases h : p vs[j] <;> simp [h]

/-- the cells of a slice of which what is not wanted goes: so many are kept, so many were looked at -/
structure Del (arr : Array Value) (vs : List Value) (p : Value → Bool) (c i j : Nat) : Prop where
  size : arr.size = c
  jn : j ≤ vs.length
  nc : vs.length ≤ c
  ij : i = ((vs.take j).filter (fun v => !p v)).length
  kept : arr.toList.take i = (vs.take j).filter (fun v => !p v)
  rest : ∀ k, j ≤ k → ∀ h : k < vs.length, arr[k]? = some vs[k]

theorem Del.le {arr : Array Value} {vs : List Value} {p : Value → Bool} {c i j : Nat} (h : Del arr vs p c i j) : i ≤ j := by
  have := h.ij
  have h2 := List.length_filter_le (fun v => !p v) (vs.take j)
  have h3 := List.length_take_le j vs
  omega

theorem Del.skip {arr : Array Value} {vs : List Value} {p : Value → Bool} {c i j : Nat} (h : Del arr vs p c i j) (hj : j < vs.length) (hp : p vs[j] = true) : Del arr vs p c i (j + 1) := by
  have e := take_filter_succ p hj
  rw [hp, if_pos rfl, List.append_nil] at e
  exact ⟨h.size, hj, h.nc, by rw [e]; exact h.ij, by rw [e]; exact h.kept, fun k hk hk2 => h.rest k (by omega) hk2⟩

theorem Del.keep {arr : Array Value} {vs : List Value} {p : Value → Bool} {c i j : Nat} (h : Del arr vs p c i j) (hj : j < vs.length) (hp : p vs[j] = false) : Del (arr.setIfInBounds i vs[j]) vs p c (i + 1) (j + 1) := by
  have e := take_filter_succ p hj
  have hle := h.le
  have hsz := h.size
  have hnc := h.nc
  rw [hp] at e
  simp only [Bool.false_eq_true, if_false] at e
  refine ⟨by simp [h.size], hj, h.nc, by rw [e, List.length_append, ← h.ij]; rfl, ?_, fun k hk hk2 => ?_⟩
  · rw [e, Array.toList_setIfInBounds, List.take_set, ← h.kept]
    have hlt : i < arr.toList.length := by simp; omega
    rw [List.take_succ_eq_append_getElem hlt, List.set_append_right _ _ (by rw [List.length_take]; exact Nat.min_le_left ..), List.length_take, Nat.min_eq_left (Nat.le_of_lt hlt), Nat.sub_self]
    rfl
  · rw [Array.getElem?_setIfInBounds_ne (by omega)]
    exact h.rest k (by omega) hk2

theorem deleteI_ok {H : HV} {b : Option Nat} {n c : Nat} {vs : List Value} {g : Nat} {ca : List Value} (p : Value → Bool) (w : World) (hs : ∀ i o, H i = some o → w.heap[i]? = some o) (ho : OS H 3 1 b n c vs) (hn : n < 4611686018427387904) (h1c : ∀ v ∈ vs, v.cells = #[v] ∧ v.oneCell' = true)
    (hg : hasB Tryz.prog g = true) (hp : ∀ v ∈ vs, ∀ w, (∀ i o, b ≠ some i → H i = some o → w.heap[i]? = some o) → Calls Tryz.prog g ([] ++ ([v] ++ ca)).toArray w (RetP (.bool (p v)) w)) :
    Calls Tryz.prog 280 #[slV b n c, .func (.func g) #[] ⟨ca⟩] w (Ret H (fun i => b = some i) (fun v H1 => ∃ m, v = slV b m c ∧ OS H1 3 1 b m c (vs.filter (fun v => !p v))) w) := by
  refine fn_ret (args := [slV b n c, .func (.func g) #[] ⟨ca⟩]) tabH Tryz.func280 rfl (by kernel_rfl)  hs ?_
  have hl : vs.length = n := by have := ho.len; omega
  have hnc := ho.le
  (conv => whnf); repeat first | (refine drw (by decide +kernel) ?_; conv => whnf) | (refine fun (_ : Nat) (_ : _ ≤ _) (_ : _ = none) => ?_; conv => whnf)
  (refine VCall.pure_ (by kernel_rfl) (fun w hs => indexI_ok p w hs ho.rd hl hn hg (fun v hv w h => hp v hv w (fun i o _ ho => h i o ho))) ?_); (conv => whnf); repeat first | (refine drw (by decide +kernel) ?_; conv => whnf) | (refine fun (_ : Nat) (_ : _ ≤ _) (_ : _ = none) => ?_; conv => whnf)
  by_cases hany : vs.any p = true
  · have hge : 0 ≤ idxP p vs := idxP_neg.2 hany
    obtain ⟨i0, hi0⟩ : ∃ i0 : Nat, idxP p vs = i0 := ⟨(idxP p vs).toNat, by omega⟩
    have hf : vs.findIdx p = i0 ∧ i0 < vs.length := by
      unfold idxP at hi0
      split at hi0
      · constructor <;> omega
      · omega
    rw [hi0]
    have hbefore : ∀ j, j < i0 → ∀ h : j < vs.length, p vs[j] = false := fun j hj h => by
      have := List.not_of_lt_findIdx (p := p) (xs := vs) (i := j) (by omega)
      simpa using this
    have hat : p (vs[i0]'hf.2) = true := by
      have := List.findIdx_getElem (p := p) (xs := vs) (w := by omega)
      simpa only [hf.1] using this
    obtain ⟨r, rfl⟩ := ho.zero_le (by omega)
    obtain ⟨arr, g1, g2, g3⟩ := ho.out
    have hd0 : Del arr vs p c i0 (i0 + 1) := by
      have hfil : (vs.take i0).filter (fun v => !p v) = vs.take i0 := by
        refine List.filter_eq_self.2 fun v hv => ?_
        obtain ⟨j, hj, rfl⟩ := List.getElem_of_mem hv
        rw [List.length_take] at hj
        rw [List.getElem_take, hbefore j (by omega) (by omega)]; rfl
      have hdel : Del arr vs p c i0 i0 := by
        refine ⟨by omega, by omega, by omega, by rw [hfil, List.length_take]; omega, ?_, fun k hk h => ?_⟩
        · rw [hfil, g3, List.take_take, Nat.min_eq_left (by omega)]
        · have e : vs[k]? = some vs[k] := List.getElem?_eq_getElem h
          rw [← e, g3, List.getElem?_take_of_lt (by omega)]
          simp
      exact hdel.skip hf.2 hat
    (conv => whnf); repeat first | (refine drw (by decide +kernel) ?_; conv => whnf) | (refine fun (_ : Nat) (_ : _ ≤ _) (_ : _ = none) => ?_; conv => whnf)
    have ew : IntKind.i64.wrap ((i0 : Int) + 1) = ((i0 + 1 : Nat) : Int) := by rw [wrap64 (by omega)]; rfl
    rw [ew]
    refine VLoop.ok (X := HV × Array Value × Nat × Nat) (fun x => [(6, .v (iV x.2.2.2)), (5, .v (iV x.2.2.1)), (0, .v (slV (some r) n c)), (1, .v (.func (.func g) #[] ⟨ca⟩)), (4, .v (.slice none 0 0))]) (fun x => x.1)
      (fun x => Del x.2.1 vs p c x.2.2.1 x.2.2.2 ∧ x.1 r = some (.cells x.2.1 3 (0, 0)) ∧ ∀ i o, i ≠ r → H i = some o → x.1 i = some o) (fun x => n - x.2.2.2) tabH (by kernel_rfl) rfl (fun _ => rfl) (H, arr, i0, i0 + 1) ⟨hd0, g1, fun i o _ h => h⟩ ⟨rfl, rfl, rfl, rfl, rfl, trivial⟩ rfl ?_
    rintro ⟨Hx, ar, i, j⟩ ⟨k1, k2, k3⟩
    dsimp only at k1 k2 k3
    have hij := k1.le
    have hjn := k1.jn
    have hasz := k1.size
    (conv => whnf); repeat first | (refine drw (by decide +kernel) ?_; conv => whnf) | (refine fun (_ : Nat) (_ : _ ≤ _) (_ : _ = none) => ?_; conv => whnf)
    refine vif_dec (fun h2 => ?_) (fun h2 => ?_)
    · have h2 : (j : Int) < n := h2
      have hjlt : j < vs.length := by omega
      have hcell : RdC Hx r (0 + (j : Int).toNat * 1) vs[j] := by
        have e : 0 + (j : Int).toNat * 1 = j := by simp
        rw [e]
        exact ⟨ar, _, _, k2, k1.rest j (Nat.le_refl _) hjlt⟩
      have hone := h1c _ (List.getElem_mem hjlt)
      have ei : IntKind.i64.wrap ((i : Int) + 1) = ((i + 1 : Nat) : Int) := by rw [wrap64 (by omega)]; rfl
      have ej : IntKind.i64.wrap ((j : Int) + 1) = ((j + 1 : Nat) : Int) := by rw [wrap64 (by omega)]; rfl
      (conv => whnf); repeat first | (refine drw (by decide +kernel) ?_; conv => whnf) | (refine fun (_ : Nat) (_ : _ ≤ _) (_ : _ = none) => ?_; conv => whnf)
      refine ⟨by omega, ?_⟩
      (conv => whnf); repeat first | (refine drw (by decide +kernel) ?_; conv => whnf) | (refine fun (_ : Nat) (_ : _ ≤ _) (_ : _ = none) => ?_; conv => whnf)
      refine ⟨_, hcell, ?_⟩
      (conv => whnf); repeat first | (refine drw (by decide +kernel) ?_; conv => whnf) | (refine fun (_ : Nat) (_ : _ ≤ _) (_ : _ = none) => ?_; conv => whnf)
      refine VCall.pure_ hg (fun w hs => hp _ (List.getElem_mem _) w (fun i o hi ho => hs i o (k3 i o (fun e => hi (by rw [e])) ho))) ?_
      (conv => whnf); repeat first | (refine drw (by decide +kernel) ?_; conv => whnf) | (refine fun (_ : Nat) (_ : _ ≤ _) (_ : _ = none) => ?_; conv => whnf)
      refine vif_intro (fun h3 => ?_) (fun h3 => ?_)
      · (conv => whnf); repeat first | (refine drw (by decide +kernel) ?_; conv => whnf) | (refine fun (_ : Nat) (_ : _ ≤ _) (_ : _ = none) => ?_; conv => whnf)
        refine ⟨(by omega : 0 ≤ (i : Int) ∧ (i : Int) < n), ?_⟩
        (conv => whnf); repeat first | (refine drw (by decide +kernel) ?_; conv => whnf) | (refine fun (_ : Nat) (_ : _ ≤ _) (_ : _ = none) => ?_; conv => whnf)
        have hcl : cellsOf vs[j] = [vs[j]] := by unfold cellsOf; rw [hone.1]
        refine ⟨by rw [hcl]; rfl, ?_⟩
        rw [hcl]
        have e0 : 0 + (i : Int).toNat * 1 = i := by simp
        rw [e0]
        refine ⟨ar, _, _, k2, by rw [hasz]; show i + 1 ≤ c; omega, .inr (.inl (Nat.zero_le _)), .inl rfl, (fun v hv => by rw [List.mem_singleton.1 hv]; exact hone.2), ?_⟩
        intro H2 hU
        (conv => whnf); repeat first | (refine drw (by decide +kernel) ?_; conv => whnf) | (refine fun (_ : Nat) (_ : _ ≤ _) (_ : _ = none) => ?_; conv => whnf)
        rw [ei, ej]
        refine ⟨(H2, ar.setIfInBounds i vs[j], i + 1, j + 1), ⟨k1.keep hjlt (by simpa using h3), hU.new, fun i o hi ho => hU.old i o hi (k3 i o hi ho)⟩, by dsimp only; omega, ⟨rfl, rfl, rfl, rfl, rfl, trivial⟩, ⟨[], rfl⟩, rfl⟩
      · (conv => whnf); repeat first | (refine drw (by decide +kernel) ?_; conv => whnf) | (refine fun (_ : Nat) (_ : _ ≤ _) (_ : _ = none) => ?_; conv => whnf)
        rw [ej]
        refine ⟨(Hx, ar, i, j + 1), ⟨k1.skip hjlt (by simpa using h3), k2, k3⟩, by dsimp only; omega, ⟨rfl, rfl, rfl, rfl, rfl, trivial⟩, ⟨[], rfl⟩, rfl⟩
    · have h2 : ¬ (j : Int) < n := h2
      have hjn2 : j = vs.length := by omega
      subst hjn2
      have hkept := k1.kept
      have hijl := k1.ij
      rw [List.take_length] at hkept hijl
      (conv => whnf); repeat first | (refine drw (by decide +kernel) ?_; conv => whnf) | (refine fun (_ : Nat) (_ : _ ≤ _) (_ : _ = none) => ?_; conv => whnf)
      refine ⟨(by omega : 0 ≤ (i : Int) ∧ (i : Int) ≤ n), ?_⟩
      (conv => whnf); repeat first | (refine drw (by decide +kernel) ?_; conv => whnf) | (refine fun (_ : Nat) (_ : _ ≤ _) (_ : _ = none) => ?_; conv => whnf)
      have fin : ∀ H3 : HV, (∃ ar3, H3 r = some (.cells ar3 3 (0, 0)) ∧ ar3.size = c ∧ ar3.toList.take i = ar.toList.take i) → ∃ m, slV (some r) i c = slV (some r) m c ∧ OS H3 3 1 (some r) m c (vs.filter (fun v => !p v)) := by
        rintro H3 ⟨ar3, q1, q2, q3⟩
        exact ⟨i, rfl, by omega, by omega, ar3, q1, by omega, by rw [Nat.mul_one, q3, hkept]⟩
      refine ⟨fun h0 => ?_, fun h0 => ?_⟩
      · (conv => whnf); repeat first | (refine drw (by decide +kernel) ?_; conv => whnf) | (refine fun (_ : Nat) (_ : _ ≤ _) (_ : _ = none) => ?_; conv => whnf)
        refine ⟨(by omega : 0 ≤ (i : Int) ∧ (i : Int) ≤ c), ?_⟩
        (conv => whnf); repeat first | (refine drw (by decide +kernel) ?_; conv => whnf) | (refine fun (_ : Nat) (_ : _ ≤ _) (_ : _ = none) => ?_; conv => whnf)
        exact fin Hx ⟨ar, k2, hasz, rfl⟩
      · have hin : i < n := by show i < n; have h0 : n - (i : Int).toNat ≠ 0 := h0; omega
        have hci : ¬ c = (i : Int).toNat := by omega
        rw [if_neg hci]
        have ez : ∀ m, (zeroL m [(Value.int .i64 0)]).length = m := fun m => by unfold zeroL; simp
        have e0 : 0 + (i : Int).toNat * 1 = i := by simp
        refine ⟨ar, _, _, k2, ?_, .inr (.inl (Nat.zero_le _)), .inl rfl, ?_, ?_⟩
        · show 0 + (i : Int).toNat * 1 + (zeroL (n - (i : Int).toNat) [(Value.int .i64 0)]).length ≤ _
          rw [ez, e0]; omega
        · intro v hv
          have hv : v ∈ zeroL (n - (i : Int).toNat) [(Value.int .i64 0)] := hv
          unfold zeroL at hv
          simp at hv
          rw [hv.2]; rfl
        intro H3 hU
        (conv => whnf); repeat first | (refine drw (by decide +kernel) ?_; conv => whnf) | (refine fun (_ : Nat) (_ : _ ≤ _) (_ : _ = none) => ?_; conv => whnf)
        refine ⟨(by omega : 0 ≤ (i : Int) ∧ (i : Int) ≤ c), ?_⟩
        (conv => whnf); repeat first | (refine drw (by decide +kernel) ?_; conv => whnf) | (refine fun (_ : Nat) (_ : _ ≤ _) (_ : _ = none) => ?_; conv => whnf)
        refine fin H3 ⟨_, hU.new, ?_, ?_⟩
        · have := (setMany_toList (zeroL (n - (i : Int).toNat) [(Value.int .i64 0)]) ar (0 + (i : Int).toNat * 1) (by rw [ez, e0]; omega)).2
          exact this.trans hasz
        · have := (setMany_toList (zeroL (n - (i : Int).toNat) [(Value.int .i64 0)]) ar (0 + (i : Int).toNat * 1) (by rw [ez, e0]; omega)).1
          refine (congrArg (List.take i) this).trans ?_
          rw [e0, List.append_assoc, List.take_append_of_le_length (by rw [List.length_take, Array.length_toList]; omega), List.take_take, Nat.min_self]
  · have hneg : idxP p vs = -1 := by
      have := mt idxP_neg.1 hany
      unfold idxP at this ⊢
      split
      · rename_i h; rw [if_pos h] at this; omega
      · rfl
    rw [hneg]
    (conv => whnf); repeat first | (refine drw (by decide +kernel) ?_; conv => whnf) | (refine fun (_ : Nat) (_ : _ ≤ _) (_ : _ = none) => ?_; conv => whnf)
    refine ⟨n, rfl, ?_⟩
    have : vs.filter (fun v => !p v) = vs := List.filter_eq_self.2 (fun v hv => by
      cases hpv : p v with
      | false => rfl
      | true => exact (hany (List.any_eq_true.2 ⟨v, hv, hpv⟩)).elim)
    rw [this]; exact ho
theorem deleteC_ok {H : HV} {b : Option Nat} {n c : Nat} {vs : List Value} {g : Nat} {ca : List Value} (p : Value → Bool) (w : World) (hs : ∀ i o, H i = some o → w.heap[i]? = some o) (ho : OS H 234 1 b n c vs) (hn : n < 4611686018427387904) (h1c : ∀ v ∈ vs, v.cells = #[v] ∧ v.oneCell' = true)
    (hg : hasB Tryz.prog g = true) (hp : ∀ v ∈ vs, ∀ w, (∀ i o, b ≠ some i → H i = some o → w.heap[i]? = some o) → Calls Tryz.prog g ([] ++ ([v] ++ ca)).toArray w (RetP (.bool (p v)) w)) :
    Calls Tryz.prog 153 #[slV b n c, .func (.func g) #[] ⟨ca⟩] w (Ret H (fun i => b = some i) (fun v H1 => ∃ m, v = slV b m c ∧ OS H1 234 1 b m c (vs.filter (fun v => !p v))) w) := by
  refine fn_ret (args := [slV b n c, .func (.func g) #[] ⟨ca⟩]) tabH Tryz.func153 rfl (by kernel_rfl)  hs ?_
  have hl : vs.length = n := by have := ho.len; omega
  have hnc := ho.le
  (conv => whnf); repeat first | (refine drw (by decide +kernel) ?_; conv => whnf) | (refine fun (_ : Nat) (_ : _ ≤ _) (_ : _ = none) => ?_; conv => whnf)
  (refine VCall.pure_ (by kernel_rfl) (fun w hs => indexC_ok p w hs ho.rd hl hn hg (fun v hv w h => hp v hv w (fun i o _ ho => h i o ho))) ?_); (conv => whnf); repeat first | (refine drw (by decide +kernel) ?_; conv => whnf) | (refine fun (_ : Nat) (_ : _ ≤ _) (_ : _ = none) => ?_; conv => whnf)
  by_cases hany : vs.any p = true
  · have hge : 0 ≤ idxP p vs := idxP_neg.2 hany
    obtain ⟨i0, hi0⟩ : ∃ i0 : Nat, idxP p vs = i0 := ⟨(idxP p vs).toNat, by omega⟩
    have hf : vs.findIdx p = i0 ∧ i0 < vs.length := by
      unfold idxP at hi0
      split at hi0
      · constructor <;> omega
      · omega
    rw [hi0]
    have hbefore : ∀ j, j < i0 → ∀ h : j < vs.length, p vs[j] = false := fun j hj h => by
      have := List.not_of_lt_findIdx (p := p) (xs := vs) (i := j) (by omega)
      simpa using this
    have hat : p (vs[i0]'hf.2) = true := by
      have := List.findIdx_getElem (p := p) (xs := vs) (w := by omega)
      simpa only [hf.1] using this
    obtain ⟨r, rfl⟩ := ho.zero_le (by omega)
    obtain ⟨arr, g1, g2, g3⟩ := ho.out
    have hd0 : Del arr vs p c i0 (i0 + 1) := by
      have hfil : (vs.take i0).filter (fun v => !p v) = vs.take i0 := by
        refine List.filter_eq_self.2 fun v hv => ?_
        obtain ⟨j, hj, rfl⟩ := List.getElem_of_mem hv
        rw [List.length_take] at hj
        rw [List.getElem_take, hbefore j (by omega) (by omega)]; rfl
      have hdel : Del arr vs p c i0 i0 := by
        refine ⟨by omega, by omega, by omega, by rw [hfil, List.length_take]; omega, ?_, fun k hk h => ?_⟩
        · rw [hfil, g3, List.take_take, Nat.min_eq_left (by omega)]
        · have e : vs[k]? = some vs[k] := List.getElem?_eq_getElem h
          rw [← e, g3, List.getElem?_take_of_lt (by omega)]
          simp
      exact hdel.skip hf.2 hat
    (conv => whnf); repeat first | (refine drw (by decide +kernel) ?_; conv => whnf) | (refine fun (_ : Nat) (_ : _ ≤ _) (_ : _ = none) => ?_; conv => whnf)
    have ew : IntKind.i64.wrap ((i0 : Int) + 1) = ((i0 + 1 : Nat) : Int) := by rw [wrap64 (by omega)]; rfl
    rw [ew]
    refine VLoop.ok (X := HV × Array Value × Nat × Nat) (fun x => [(6, .v (iV x.2.2.2)), (5, .v (iV x.2.2.1)), (0, .v (slV (some r) n c)), (1, .v (.func (.func g) #[] ⟨ca⟩)), (4, .v (.slice none 0 0))]) (fun x => x.1)
      (fun x => Del x.2.1 vs p c x.2.2.1 x.2.2.2 ∧ x.1 r = some (.cells x.2.1 234 (0, 0)) ∧ ∀ i o, i ≠ r → H i = some o → x.1 i = some o) (fun x => n - x.2.2.2) tabH (by kernel_rfl) rfl (fun _ => rfl) (H, arr, i0, i0 + 1) ⟨hd0, g1, fun i o _ h => h⟩ ⟨rfl, rfl, rfl, rfl, rfl, trivial⟩ rfl ?_
    rintro ⟨Hx, ar, i, j⟩ ⟨k1, k2, k3⟩
    dsimp only at k1 k2 k3
    have hij := k1.le
    have hjn := k1.jn
    have hasz := k1.size
    (conv => whnf); repeat first | (refine drw (by decide +kernel) ?_; conv => whnf) | (refine fun (_ : Nat) (_ : _ ≤ _) (_ : _ = none) => ?_; conv => whnf)
    refine vif_dec (fun h2 => ?_) (fun h2 => ?_)
    · have h2 : (j : Int) < n := h2
      have hjlt : j < vs.length := by omega
      have hcell : RdC Hx r (0 + (j : Int).toNat * 1) vs[j] := by
        have e : 0 + (j : Int).toNat * 1 = j := by simp
        rw [e]
        exact ⟨ar, _, _, k2, k1.rest j (Nat.le_refl _) hjlt⟩
      have hone := h1c _ (List.getElem_mem hjlt)
      have ei : IntKind.i64.wrap ((i : Int) + 1) = ((i + 1 : Nat) : Int) := by rw [wrap64 (by omega)]; rfl
      have ej : IntKind.i64.wrap ((j : Int) + 1) = ((j + 1 : Nat) : Int) := by rw [wrap64 (by omega)]; rfl
      (conv => whnf); repeat first | (refine drw (by decide +kernel) ?_; conv => whnf) | (refine fun (_ : Nat) (_ : _ ≤ _) (_ : _ = none) => ?_; conv => whnf)
      refine ⟨by omega, ?_⟩
      (conv => whnf); repeat first | (refine drw (by decide +kernel) ?_; conv => whnf) | (refine fun (_ : Nat) (_ : _ ≤ _) (_ : _ = none) => ?_; conv => whnf)
      refine ⟨_, hcell, ?_⟩
      (conv => whnf); repeat first | (refine drw (by decide +kernel) ?_; conv => whnf) | (refine fun (_ : Nat) (_ : _ ≤ _) (_ : _ = none) => ?_; conv => whnf)
      refine VCall.pure_ hg (fun w hs => hp _ (List.getElem_mem _) w (fun i o hi ho => hs i o (k3 i o (fun e => hi (by rw [e])) ho))) ?_
      (conv => whnf); repeat first | (refine drw (by decide +kernel) ?_; conv => whnf) | (refine fun (_ : Nat) (_ : _ ≤ _) (_ : _ = none) => ?_; conv => whnf)
      refine vif_intro (fun h3 => ?_) (fun h3 => ?_)
      · (conv => whnf); repeat first | (refine drw (by decide +kernel) ?_; conv => whnf) | (refine fun (_ : Nat) (_ : _ ≤ _) (_ : _ = none) => ?_; conv => whnf)
        refine ⟨(by omega : 0 ≤ (i : Int) ∧ (i : Int) < n), ?_⟩
        (conv => whnf); repeat first | (refine drw (by decide +kernel) ?_; conv => whnf) | (refine fun (_ : Nat) (_ : _ ≤ _) (_ : _ = none) => ?_; conv => whnf)
        have hcl : cellsOf vs[j] = [vs[j]] := by unfold cellsOf; rw [hone.1]
        refine ⟨by rw [hcl]; rfl, ?_⟩
        rw [hcl]
        have e0 : 0 + (i : Int).toNat * 1 = i := by simp
        rw [e0]
        refine ⟨ar, _, _, k2, by rw [hasz]; show i + 1 ≤ c; omega, .inr (.inl (Nat.zero_le _)), .inl rfl, (fun v hv => by rw [List.mem_singleton.1 hv]; exact hone.2), ?_⟩
        intro H2 hU
        (conv => whnf); repeat first | (refine drw (by decide +kernel) ?_; conv => whnf) | (refine fun (_ : Nat) (_ : _ ≤ _) (_ : _ = none) => ?_; conv => whnf)
        rw [ei, ej]
        refine ⟨(H2, ar.setIfInBounds i vs[j], i + 1, j + 1), ⟨k1.keep hjlt (by simpa using h3), hU.new, fun i o hi ho => hU.old i o hi (k3 i o hi ho)⟩, by dsimp only; omega, ⟨rfl, rfl, rfl, rfl, rfl, trivial⟩, ⟨[], rfl⟩, rfl⟩
      · (conv => whnf); repeat first | (refine drw (by decide +kernel) ?_; conv => whnf) | (refine fun (_ : Nat) (_ : _ ≤ _) (_ : _ = none) => ?_; conv => whnf)
        rw [ej]
        refine ⟨(Hx, ar, i, j + 1), ⟨k1.skip hjlt (by simpa using h3), k2, k3⟩, by dsimp only; omega, ⟨rfl, rfl, rfl, rfl, rfl, trivial⟩, ⟨[], rfl⟩, rfl⟩
    · have h2 : ¬ (j : Int) < n := h2
      have hjn2 : j = vs.length := by omega
      subst hjn2
      have hkept := k1.kept
      have hijl := k1.ij
      rw [List.take_length] at hkept hijl
      (conv => whnf); repeat first | (refine drw (by decide +kernel) ?_; conv => whnf) | (refine fun (_ : Nat) (_ : _ ≤ _) (_ : _ = none) => ?_; conv => whnf)
      refine ⟨(by omega : 0 ≤ (i : Int) ∧ (i : Int) ≤ n), ?_⟩
      (conv => whnf); repeat first | (refine drw (by decide +kernel) ?_; conv => whnf) | (refine fun (_ : Nat) (_ : _ ≤ _) (_ : _ = none) => ?_; conv => whnf)
      have fin : ∀ H3 : HV, (∃ ar3, H3 r = some (.cells ar3 234 (0, 0)) ∧ ar3.size = c ∧ ar3.toList.take i = ar.toList.take i) → ∃ m, slV (some r) i c = slV (some r) m c ∧ OS H3 234 1 (some r) m c (vs.filter (fun v => !p v)) := by
        rintro H3 ⟨ar3, q1, q2, q3⟩
        exact ⟨i, rfl, by omega, by omega, ar3, q1, by omega, by rw [Nat.mul_one, q3, hkept]⟩
      refine ⟨fun h0 => ?_, fun h0 => ?_⟩
      · (conv => whnf); repeat first | (refine drw (by decide +kernel) ?_; conv => whnf) | (refine fun (_ : Nat) (_ : _ ≤ _) (_ : _ = none) => ?_; conv => whnf)
        refine ⟨(by omega : 0 ≤ (i : Int) ∧ (i : Int) ≤ c), ?_⟩
        (conv => whnf); repeat first | (refine drw (by decide +kernel) ?_; conv => whnf) | (refine fun (_ : Nat) (_ : _ ≤ _) (_ : _ = none) => ?_; conv => whnf)
        exact fin Hx ⟨ar, k2, hasz, rfl⟩
      · have hin : i < n := by show i < n; have h0 : n - (i : Int).toNat ≠ 0 := h0; omega
        have hci : ¬ c = (i : Int).toNat := by omega
        rw [if_neg hci]
        have ez : ∀ m, (zeroL m [(Value.pointer none)]).length = m := fun m => by unfold zeroL; simp
        have e0 : 0 + (i : Int).toNat * 1 = i := by simp
        refine ⟨ar, _, _, k2, ?_, .inr (.inl (Nat.zero_le _)), .inl rfl, ?_, ?_⟩
        · show 0 + (i : Int).toNat * 1 + (zeroL (n - (i : Int).toNat) [(Value.pointer none)]).length ≤ _
          rw [ez, e0]; omega
        · intro v hv
          have hv : v ∈ zeroL (n - (i : Int).toNat) [(Value.pointer none)] := hv
          unfold zeroL at hv
          simp at hv
          rw [hv.2]; rfl
        intro H3 hU
        (conv => whnf); repeat first | (refine drw (by decide +kernel) ?_; conv => whnf) | (refine fun (_ : Nat) (_ : _ ≤ _) (_ : _ = none) => ?_; conv => whnf)
        refine ⟨(by omega : 0 ≤ (i : Int) ∧ (i : Int) ≤ c), ?_⟩
        (conv => whnf); repeat first | (refine drw (by decide +kernel) ?_; conv => whnf) | (refine fun (_ : Nat) (_ : _ ≤ _) (_ : _ = none) => ?_; conv => whnf)
        refine fin H3 ⟨_, hU.new, ?_, ?_⟩
        · have := (setMany_toList (zeroL (n - (i : Int).toNat) [(Value.pointer none)]) ar (0 + (i : Int).toNat * 1) (by rw [ez, e0]; omega)).2
          exact this.trans hasz
        · have := (setMany_toList (zeroL (n - (i : Int).toNat) [(Value.pointer none)]) ar (0 + (i : Int).toNat * 1) (by rw [ez, e0]; omega)).1
          refine (congrArg (List.take i) this).trans ?_
          rw [e0, List.append_assoc, List.take_append_of_le_length (by rw [List.length_take, Array.length_toList]; omega), List.take_take, Nat.min_self]
  · have hneg : idxP p vs = -1 := by
      have := mt idxP_neg.1 hany
      unfold idxP at this ⊢
      split
      · rename_i h; rw [if_pos h] at this; omega
      · rfl
    rw [hneg]
    (conv => whnf); repeat first | (refine drw (by decide +kernel) ?_; conv => whnf) | (refine fun (_ : Nat) (_ : _ ≤ _) (_ : _ = none) => ?_; conv => whnf)
    refine ⟨n, rfl, ?_⟩
    have : vs.filter (fun v => !p v) = vs := List.filter_eq_self.2 (fun v hv => by
      cases hpv : p v with
      | false => rfl
      | true => exact (hany (List.any_eq_true.2 ⟨v, hv, hpv⟩)).elim)
    rw [this]; exact ho
end Go.Proofs.YtlkgjffffeohdaaGreat
