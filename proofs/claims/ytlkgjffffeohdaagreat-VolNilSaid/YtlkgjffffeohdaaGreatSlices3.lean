/- Functions of the library over bytes and numbers. -/
import Derived.Test.YtlkgjffffeohdaaGreatSlices2
set_option linter.unusedVariables false
set_option linter.unusedSimpArgs false
namespace Go.Proofs.YtlkgjffffeohdaaGreat
open Go Go.Eng Go.Proofs

theorem clone_ok {H : HV} {a : Option Addr} {n c : Nat} {bs : List UInt8} (w : World) (hs : ∀ i o, H i = some o → w.heap[i]? = some o) (hb : BS H a n c bs) (hn : 1 ≤ n) (hn2 : n < 70368744177664) : Calls Tryz.prog 220 #[yV a n c] w (Ret H (fun _ => False) (fun v H1 => Is (
    ∃ r c', v = slV (some r) n c' ∧ H r = none ∧ OS H1 5 1 (some r) n c' (bytesV bs))) w) := by
  refine fn_ret (args := [yV a n c]) tabH Tryz.func220 rfl (by kernel_rfl)  hs ?_
  obtain ⟨b0, off, rfl⟩ := hb.nonempty (by omega)
  (conv => whnf); repeat first | (refine drw (by decide +kernel) ?_; conv => whnf) | (refine fun (_ : Nat) (_ : _ ≤ _) (_ : _ = none) => ?_; conv => whnf)
  refine ⟨by decide, ?_⟩
  intro r0 H1 hB0 hN0 hE0
  (conv => whnf); repeat first | (refine drw (by decide +kernel) ?_; conv => whnf) | (refine fun (_ : Nat) (_ : _ ≤ _) (_ : _ = none) => ?_; conv => whnf)
  have hl := hb.len
  have hrd := (hb.mono hE0.old).rd
  refine append_new (sz := 1) (by_ := 1) (n := 0) (c := 0) (m := n) (vs := []) (show RdS H1 1 0 (.slice (some ⟨r0, 0, none⟩) 0 0) [] from ⟨_, _, _, hE0.new, Nat.zero_le _, rfl⟩) rfl (by omega) (bytesV bs) hrd (by rw [bytesV_len]; omega) (oneCell_bytes bs) (by decide) (by omega) rfl ?_
  intro r c' H2 hB hN hS ho
  (conv => whnf); repeat first | (refine drw (by decide +kernel) ?_; conv => whnf) | (refine fun (_ : Nat) (_ : _ ≤ _) (_ : _ = none) => ?_; conv => whnf)
  have e : 0 + n = n := by omega
  rw [e] at ho
  rw [List.nil_append] at ho
  refine ⟨r, c', by rw [e]; rfl, hE0.none hN, ho⟩

theorem indexN_ok {H : HV} {a : Option Addr} {n c : Nat} {ns : List Int} (k : Int) (w : World) (hs : ∀ i o, H i = some o → w.heap[i]? = some o) (hv : RdS H 1 n (.slice a n c) (intsV ns)) (hl : ns.length = n) (hn : n < 4611686018427387904) :
    Calls Tryz.prog 305 #[.slice a n c, iV k] w (RetP (iV (idxP (fun v => match v with | .int _ j => decide (k = j) | _ => false) (intsV ns))) w) := by
  refine fn_pure (args := [.slice a n c, iV k]) tabH Tryz.func305 rfl (by kernel_rfl)  hs ?_
  have hlen : (intsV ns).length = n := by rw [intsV_len]; exact hl
  have hget : ∀ i (h : i < (intsV ns).length), (intsV ns)[i] = iV (ns[i]'(by rw [intsV_len] at h; exact h)) := by intro i h; simp [intsV]; rfl
  (conv => whnf); repeat first | (refine drw (by decide +kernel) ?_; conv => whnf) | (refine fun (_ : Nat) (_ : _ ≤ _) (_ : _ = none) => ?_; conv => whnf)
  refine VLoop.ok (X := Nat) (fun i => [(8, .v (iV i)), (7, .v (iV n)), (0, .v (.slice a n c)), (1, .v (iV k)), (4, .v (iV 0))]) (fun _ => H)
    (fun i => i ≤ n ∧ ∀ j, j < i → ∀ h : j < ns.length, ¬ k = ns[j]) (fun i => n - i) tabH (by kernel_rfl) rfl (fun _ => rfl) 0 ⟨Nat.zero_le _, fun j hj => by omega⟩ ⟨rfl, rfl, rfl, rfl, rfl, trivial⟩ rfl ?_
  rintro i ⟨hi, hall⟩
  (conv => whnf); repeat first | (refine drw (by decide +kernel) ?_; conv => whnf) | (refine fun (_ : Nat) (_ : _ ≤ _) (_ : _ = none) => ?_; conv => whnf)
  refine vif_dec (fun h1 => ?_) (fun h1 => ?_)
  · have hlt : i < n := by omega
    obtain ⟨b, off, rfl⟩ := RdS_some hv hlen (by omega)
    (conv => whnf); repeat first | (refine drw (by decide +kernel) ?_; conv => whnf) | (refine fun (_ : Nat) (_ : _ ≤ _) (_ : _ = none) => ?_; conv => whnf)
    refine ⟨by omega, ?_⟩
    (conv => whnf); repeat first | (refine drw (by decide +kernel) ?_; conv => whnf) | (refine fun (_ : Nat) (_ : _ ≤ _) (_ : _ = none) => ?_; conv => whnf)
    refine ⟨_, (hget i (by omega)) ▸ RdS_get hv i hlt (by omega), ?_⟩
    (conv => whnf); repeat first | (refine drw (by decide +kernel) ?_; conv => whnf) | (refine fun (_ : Nat) (_ : _ ≤ _) (_ : _ = none) => ?_; conv => whnf)
    refine vif_dec (fun h2 => ?_) (fun h2 => ?_)
    · (conv => whnf); repeat first | (refine drw (by decide +kernel) ?_; conv => whnf) | (refine fun (_ : Nat) (_ : _ ≤ _) (_ : _ = none) => ?_; conv => whnf)
      rw [idxP_some (i := i) (by omega) (by rw [hget i (by omega)]; exact decide_eq_true h2) (fun j hj h => by rw [hget j h]; exact decide_eq_false (hall j hj (by omega)))]
    · (conv => whnf); repeat first | (refine drw (by decide +kernel) ?_; conv => whnf) | (refine fun (_ : Nat) (_ : _ ≤ _) (_ : _ = none) => ?_; conv => whnf)
      refine ⟨i + 1, ⟨by omega, fun j hj h => ?_⟩, by omega, ⟨?_, rfl, rfl, rfl, rfl, trivial⟩, ⟨[], rfl⟩, rfl⟩
      · rcases Nat.lt_succ_iff_lt_or_eq.1 hj with h3 | h3
        · exact hall j h3 h
        · subst h3; exact h2
      · show some (SV.v (.int .i64 (IntKind.wrap .i64 ((i : Int) + 1)))) = _
        rw [wrap64 (by omega)]; rfl
  · (conv => whnf); repeat first | (refine drw (by decide +kernel) ?_; conv => whnf) | (refine fun (_ : Nat) (_ : _ ≤ _) (_ : _ = none) => ?_; conv => whnf)
    rw [idxP_none (fun j hj => by rw [hget j hj]; exact decide_eq_false (hall j (by omega) (by omega)))]; rfl

theorem containsN_ok {H : HV} {a : Option Addr} {n c : Nat} {ns : List Int} (k : Int) (w : World) (hs : ∀ i o, H i = some o → w.heap[i]? = some o) (hv : RdS H 1 n (.slice a n c) (intsV ns)) (hl : ns.length = n) (hn : n < 4611686018427387904) :
    Calls Tryz.prog 279 #[.slice a n c, iV k] w (RetP (bV (ns.contains k)) w) := by
  refine fn_pure (args := [.slice a n c, iV k]) tabH Tryz.func279 rfl (by kernel_rfl)  hs ?_
  (conv => whnf); repeat first | (refine drw (by decide +kernel) ?_; conv => whnf) | (refine fun (_ : Nat) (_ : _ ≤ _) (_ : _ = none) => ?_; conv => whnf)
  (refine VCall.pure_ (by kernel_rfl) (fun w hs => indexN_ok k w hs hv hl hn) ?_); (conv => whnf); repeat first | (refine drw (by decide +kernel) ?_; conv => whnf) | (refine fun (_ : Nat) (_ : _ ≤ _) (_ : _ = none) => ?_; conv => whnf)
  have : decide (idxP (fun v => match v with | .int _ j => decide (k = j) | _ => false) (intsV ns) ≥ 0) = ns.contains k := by
    rw [Bool.eq_iff_iff, decide_eq_true_iff]
    refine idxP_neg.trans ?_
    rw [List.contains_iff_mem, List.any_eq_true]
    constructor
    · rintro ⟨x, hx, hp⟩
      obtain ⟨j, hj, rfl⟩ := List.mem_map.1 hx
      have : k = j := by simpa using hp
      rw [this]; exact hj
    · intro h
      exact ⟨iV k, List.mem_map.2 ⟨k, h, rfl⟩, by simp [iV]⟩
  exact congrArg Value.bool this
end Go.Proofs.YtlkgjffffeohdaaGreat
