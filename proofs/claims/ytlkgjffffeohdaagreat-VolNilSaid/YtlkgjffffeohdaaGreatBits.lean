/- Maps of bits. -/
import Derived.Test.YtlkgjffffeohdaaGreatNum
set_option linter.unusedVariables false
set_option linter.unusedSimpArgs false
namespace Go.Proofs.YtlkgjffffeohdaaGreat
open Go Go.Eng Go.Proofs

theorem bthere_ok (a : Option Addr) (n c : Nat) (i : Int) (w : World) (hn : n < 281474976710656) :
    Calls Tryz.prog 207 #[yV a n c, iV i] w (RetP (bV (decide (0 ≤ i ∧ i < 8 * n))) w) := by
  refine fn_pure (H0 := (fun _ => none)) (args := [yV a n c, iV i]) tabH Tryz.func207 rfl (by kernel_rfl)  (fun _ _ h => by cases h) ?_
  (conv => whnf); repeat first | (refine drw (by decide +kernel) ?_; conv => whnf) | (refine fun (_ : Nat) (_ : _ ≤ _) (_ : _ = none) => ?_; conv => whnf)
  refine vif_dec (fun h1 => ?_) (fun h1 => ?_)
  · (conv => whnf); repeat first | (refine drw (by decide +kernel) ?_; conv => whnf) | (refine fun (_ : Nat) (_ : _ ≤ _) (_ : _ = none) => ?_; conv => whnf)
    rw [wrap64 (by omega)]
    exact congrArg Value.bool (decide_eq_decide.2 ⟨fun h => ⟨h1, h⟩, fun h => h.2⟩)
  · (conv => whnf); repeat first | (refine drw (by decide +kernel) ?_; conv => whnf) | (refine fun (_ : Nat) (_ : _ ≤ _) (_ : _ = none) => ?_; conv => whnf)
    exact congrArg Value.bool (decide_eq_false (fun h => h1 h.1)).symm

theorem bget_ok {H : HV} {a : Option Addr} {n c : Nat} {bs : List UInt8} (i : Int) (w : World) (hs : ∀ i o, H i = some o → w.heap[i]? = some o) (hb : BS H a n c bs) (hn : n < 281474976710656) :
    Calls Tryz.prog 125 #[yV a n c, iV i] w (RetP (bV (bitZ bs i)) w) := by
  have hlen := hb.len
  refine fn_pure (args := [yV a n c, iV i]) tabH Tryz.func125 rfl (by kernel_rfl)  hs ?_
  (conv => whnf); repeat first | (refine drw (by decide +kernel) ?_; conv => whnf) | (refine fun (_ : Nat) (_ : _ ≤ _) (_ : _ = none) => ?_; conv => whnf)
  (refine VCall.pure_ (by kernel_rfl) (fun w hs => bthere_ok _ _ _ _ w hn) ?_); (conv => whnf); repeat first | (refine drw (by decide +kernel) ?_; conv => whnf) | (refine fun (_ : Nat) (_ : _ ≤ _) (_ : _ = none) => ?_; conv => whnf)
  refine vif_dec (fun h1 => ?_) (fun h1 => ?_)
  · obtain ⟨k, rfl⟩ : ∃ k : Nat, i = k := ⟨i.toNat, by omega⟩
    have hk : k < 8 * n := by omega
    obtain ⟨b, off, rfl⟩ := hb.nonempty (by omega)
    (conv => whnf); repeat first | (refine drw (by decide +kernel) ?_; conv => whnf) | (refine fun (_ : Nat) (_ : _ ≤ _) (_ : _ = none) => ?_; conv => whnf)
    refine ⟨by decide, ?_⟩
    (conv => whnf); repeat first | (refine drw (by decide +kernel) ?_; conv => whnf) | (refine fun (_ : Nat) (_ : _ ≤ _) (_ : _ = none) => ?_; conv => whnf)
    have e1 : IntKind.i64.wrap ((k : Int).tdiv 8) = ((k / 8 : Nat) : Int) := by rw [tdiv_nn (by omega), wrap64 (by omega)]; rfl
    have e2 : (k : Int).tmod 8 = ((k % 8 : Nat) : Int) := by rw [tmod_nn (by omega)]; rfl
    rw [e1]
    refine ⟨⟨by omega, by omega⟩, ?_⟩
    (conv => whnf); repeat first | (refine drw (by decide +kernel) ?_; conv => whnf) | (refine fun (_ : Nat) (_ : _ ≤ _) (_ : _ = none) => ?_; conv => whnf)
    refine ⟨_, hb.get (k / 8) (by omega), ?_⟩
    (conv => whnf); repeat first | (refine drw (by decide +kernel) ?_; conv => whnf) | (refine fun (_ : Nat) (_ : _ ≤ _) (_ : _ = none) => ?_; conv => whnf)
    refine ⟨by decide, ?_⟩
    (conv => whnf); repeat first | (refine drw (by decide +kernel) ?_; conv => whnf) | (refine fun (_ : Nat) (_ : _ ≤ _) (_ : _ = none) => ?_; conv => whnf)
    rw [e2]
    refine ⟨by omega, ?_⟩
    (conv => whnf); repeat first | (refine drw (by decide +kernel) ?_; conv => whnf) | (refine fun (_ : Nat) (_ : _ ≤ _) (_ : _ = none) => ?_; conv => whnf)
    show Value.bool (!decide (bitI .and .u8 (bs.getD (k / 8) 0).toNat (IntKind.u8.wrap (1 * 2 ^ min ((k % 8 : Nat) : Int).toNat 8)) = 0)) = _
    rw [wrap_mask (by omega), (bitI_u8 _ _).2.1, and_mask _ (by omega)]
    simp [bV, bitZ, bitN]
  · (conv => whnf); repeat first | (refine drw (by decide +kernel) ?_; conv => whnf) | (refine fun (_ : Nat) (_ : _ ≤ _) (_ : _ = none) => ?_; conv => whnf)
    simp only [bV, bitZ]
    by_cases h0 : 0 ≤ i
    · rw [bitN_out (by omega)]; simp
    · simp [h0]

theorem bmost_ok (a : Option Addr) (n c : Nat) {bs : List UInt8} (hl : bs.length = n) (i : Int) (w : World) (hn : n < 281474976710656) :
    Calls Tryz.prog 268 #[yV a n c, iV i] w (RetP (iV (mostB bs i)) w) := by
  refine fn_pure (H0 := (fun _ => none)) (args := [yV a n c, iV i]) tabH Tryz.func268 rfl (by kernel_rfl)  (fun _ _ h => by cases h) ?_
  (conv => whnf); repeat first | (refine drw (by decide +kernel) ?_; conv => whnf) | (refine fun (_ : Nat) (_ : _ ≤ _) (_ : _ = none) => ?_; conv => whnf)
  rw [wrap64 (by omega)]
  show iV _ = _
  congr 1
  unfold minInt maxInt mostB
  split <;> split <;> omega

theorem bcount_ok {H : HV} {a : Option Addr} {n c : Nat} {bs : List UInt8} (i : Int) (w : World) (hs : ∀ i o, H i = some o → w.heap[i]? = some o) (hb : BS H a n c bs) (hn : n < 281474976710656) :
    Calls Tryz.prog 204 #[yV a n c, iV i] w (RetP (iV (cntB bs (mostB bs i))) w) := by
  have hlen := hb.len
  have hm : mostB bs i ≤ 8 * n := by unfold mostB; omega
  refine fn_pure (args := [yV a n c, iV i]) tabH Tryz.func204 rfl (by kernel_rfl)  hs ?_
  (conv => whnf); repeat first | (refine drw (by decide +kernel) ?_; conv => whnf) | (refine fun (_ : Nat) (_ : _ ≤ _) (_ : _ = none) => ?_; conv => whnf)
  (refine VCall.pure_ (by kernel_rfl) (fun w hs => bmost_ok _ _ _ hlen _ w hn) ?_); (conv => whnf); repeat first | (refine drw (by decide +kernel) ?_; conv => whnf) | (refine fun (_ : Nat) (_ : _ ≤ _) (_ : _ = none) => ?_; conv => whnf)
  generalize hmm : mostB bs i = m at *
  refine VLoop.of (X := Nat) (fun k => [(10, .v (.int .i64 k)), (9, .v (.int .i64 m)), (0, .v (yV a n c)), (5, .v (.int .i64 (cntB bs k)))]) (fun _ => []) (fun _ => H)
    (fun k => k ≤ m) (fun k => m - k) tabH (by kernel_rfl) 0 (Nat.zero_le _) ⟨rfl, rfl, rfl, rfl, trivial⟩ rfl rfl ?_
  intro k hk
  have hc := cntB_le bs k
  (conv => whnf); repeat first | (refine drw (by decide +kernel) ?_; conv => whnf) | (refine fun (_ : Nat) (_ : _ ≤ _) (_ : _ = none) => ?_; conv => whnf)
  refine vif_dec (fun h1 => ?_) (fun h1 => ?_)
  · have nx : IntKind.wrap .i64 ((k : Int) + 1) = ((k + 1 : Nat) : Int) := by rw [wrap64 (by omega)]; rfl
    (conv => whnf); repeat first | (refine drw (by decide +kernel) ?_; conv => whnf) | (refine fun (_ : Nat) (_ : _ ≤ _) (_ : _ = none) => ?_; conv => whnf)
    (refine VCall.pure_ (by kernel_rfl) (fun w hs => bget_ok _ w hs hb hn) ?_); (conv => whnf); repeat first | (refine drw (by decide +kernel) ?_; conv => whnf) | (refine fun (_ : Nat) (_ : _ ≤ _) (_ : _ = none) => ?_; conv => whnf)
    have e : bitZ bs (k : Int) = bitN bs k := by simp [bitZ]
    rw [e]
    refine vif_intro (fun h2 => ?_) (fun h2 => ?_)
    · (conv => whnf); repeat first | (refine drw (by decide +kernel) ?_; conv => whnf) | (refine fun (_ : Nat) (_ : _ ≤ _) (_ : _ = none) => ?_; conv => whnf)
      refine ⟨k + 1, by omega, by omega, ⟨congrArg (fun n => some (SV.v (.int .i64 n))) nx, rfl, rfl, ?_, trivial⟩, rfl, rfl⟩
      rw [cntB, h2]
      exact congrArg (fun n => some (SV.v (.int .i64 n))) (wrap64 (by omega))
    · (conv => whnf); repeat first | (refine drw (by decide +kernel) ?_; conv => whnf) | (refine fun (_ : Nat) (_ : _ ≤ _) (_ : _ = none) => ?_; conv => whnf)
      refine ⟨k + 1, by omega, by omega, ⟨congrArg (fun n => some (SV.v (.int .i64 n))) nx, rfl, rfl, ?_, trivial⟩, rfl, rfl⟩
      rw [cntB, h2]; rfl
  · (conv => whnf); repeat first | (refine drw (by decide +kernel) ?_; conv => whnf) | (refine fun (_ : Nat) (_ : _ ≤ _) (_ : _ = none) => ?_; conv => whnf)
    have : k = m := by omega
    rw [this]; rfl

theorem bfirst_ok {H : HV} {a : Option Addr} {n c : Nat} {bs : List UInt8} (i from_ : Int) (w : World) (hs : ∀ i o, H i = some o → w.heap[i]? = some o) (hb : BS H a n c bs) (hn : n < 281474976710656) :
    Calls Tryz.prog 265 #[yV a n c, iV i, iV from_] w (RetP (iV (firstB bs i from_)) w) := by
  have hlen := hb.len
  have hm : mostB bs i ≤ 8 * n := by unfold mostB; omega
  refine fn_pure (args := [yV a n c, iV i, iV from_]) tabH Tryz.func265 rfl (by kernel_rfl)  hs ?_
  (conv => whnf); repeat first | (refine drw (by decide +kernel) ?_; conv => whnf) | (refine fun (_ : Nat) (_ : _ ≤ _) (_ : _ = none) => ?_; conv => whnf)
  refine vif_dec (fun h1 => ?_) (fun h1 => ?_)
  · obtain ⟨f, hf, hfv⟩ : ∃ f : Nat, fromB i from_ = f ∧ (f : Int) = 0 := ⟨0, by unfold fromB; rw [if_pos (.inl h1)], rfl⟩
    (conv => whnf); repeat first | (refine drw (by decide +kernel) ?_; conv => whnf) | (refine fun (_ : Nat) (_ : _ ≤ _) (_ : _ = none) => ?_; conv => whnf)
    (refine VCall.pure_ (by kernel_rfl) (fun w hs => bmost_ok _ _ _ hlen _ w hn) ?_); (conv => whnf); repeat first | (refine drw (by decide +kernel) ?_; conv => whnf) | (refine fun (_ : Nat) (_ : _ ≤ _) (_ : _ = none) => ?_; conv => whnf)
    generalize hmm : mostB bs i = m at *
    refine VLoop.of (X := Nat) (fun k => [(21, .v (.int .i64 k)), (20, .v (.int .i64 m)), (0, .v (yV a n c)), (2, .v (iV f)), (6, .v (iV 0)), (8, .v (iV (optZ (nextB bs 0 k))))]) (fun _ => []) (fun _ => H)
      (fun k => k ≤ m ∧ ∀ l, f ≤ l → l < k → bitN bs l = true) (fun k => m - k) tabH (by kernel_rfl) 0 ⟨Nat.zero_le _, fun l _ h => by omega⟩ ⟨rfl, rfl, rfl, congrArg (fun n => some (SV.v (.int .i64 n))) hfv.symm, rfl, rfl, trivial⟩ rfl rfl ?_
    intro k hk
    obtain ⟨hk, hall⟩ := hk
    have hsp := nextB_succ bs k
    (conv => whnf); repeat first | (refine drw (by decide +kernel) ?_; conv => whnf) | (refine fun (_ : Nat) (_ : _ ≤ _) (_ : _ = none) => ?_; conv => whnf)
    refine vif_dec (fun h1 => ?_) (fun h1 => ?_)
    · have nx : IntKind.wrap .i64 ((k : Int) + 1) = ((k + 1 : Nat) : Int) := by rw [wrap64 (by omega)]; rfl
      (conv => whnf); repeat first | (refine drw (by decide +kernel) ?_; conv => whnf) | (refine fun (_ : Nat) (_ : _ ≤ _) (_ : _ = none) => ?_; conv => whnf)
      (refine VCall.pure_ (by kernel_rfl) (fun w hs => bget_ok _ w hs hb hn) ?_); (conv => whnf); repeat first | (refine drw (by decide +kernel) ?_; conv => whnf) | (refine fun (_ : Nat) (_ : _ ≤ _) (_ : _ = none) => ?_; conv => whnf)
      have e : bitZ bs (k : Int) = bitN bs k := by simp [bitZ]
      rw [e]
      refine vif_intro (fun h2 => ?_) (fun h2 => ?_)
      · (conv => whnf); repeat first | (refine drw (by decide +kernel) ?_; conv => whnf) | (refine fun (_ : Nat) (_ : _ ≤ _) (_ : _ = none) => ?_; conv => whnf)
        refine ⟨k + 1, ⟨by omega, fun l h3 h4 => ?_⟩, by omega, ⟨congrArg (fun n => some (SV.v (.int .i64 n))) nx, rfl, rfl, rfl, rfl, ?_, trivial⟩, rfl, rfl⟩
        · by_cases hl : l = k
          · rw [hl]; exact h2
          · exact hall l h3 (by omega)
        · have : nextB bs 0 (k + 1) = nextB bs 0 k := by
            rw [hsp, h2]; cases nextB bs 0 k <;> rfl
          rw [this]; rfl
      · (conv => whnf); repeat first | (refine drw (by decide +kernel) ?_; conv => whnf) | (refine fun (_ : Nat) (_ : _ ≤ _) (_ : _ = none) => ?_; conv => whnf)
        refine vif_dec (fun h3 => ?_) (fun h3 => ?_)
        · (conv => whnf); repeat first | (refine drw (by decide +kernel) ?_; conv => whnf) | (refine fun (_ : Nat) (_ : _ ≤ _) (_ : _ = none) => ?_; conv => whnf)
          have : firstB bs i from_ = (k : Int) := by
            unfold firstB
            rw [hf, hmm, nextB_some bs (m - f) f k (by omega) (by omega) h2 hall]
          rw [this]; rfl
        · (conv => whnf); repeat first | (refine drw (by decide +kernel) ?_; conv => whnf) | (refine fun (_ : Nat) (_ : _ ≤ _) (_ : _ = none) => ?_; conv => whnf)
          refine vif_dec (fun h4 => ?_) (fun h4 => ?_)
          · (conv => whnf); repeat first | (refine drw (by decide +kernel) ?_; conv => whnf) | (refine fun (_ : Nat) (_ : _ ≤ _) (_ : _ = none) => ?_; conv => whnf)
            refine ⟨k + 1, ⟨by omega, fun l h5 h6 => by omega⟩, by omega, ⟨congrArg (fun n => some (SV.v (.int .i64 n))) nx, rfl, rfl, rfl, rfl, ?_, trivial⟩, rfl, rfl⟩
            have : nextB bs 0 (k + 1) = some k := by
              rw [hsp, optZ_neg.1 h4]; simp [h2]
            rw [this]; rfl
          · (conv => whnf); repeat first | (refine drw (by decide +kernel) ?_; conv => whnf) | (refine fun (_ : Nat) (_ : _ ≤ _) (_ : _ = none) => ?_; conv => whnf)
            refine ⟨k + 1, ⟨by omega, fun l h5 h6 => by omega⟩, by omega, ⟨congrArg (fun n => some (SV.v (.int .i64 n))) nx, rfl, rfl, rfl, rfl, ?_, trivial⟩, rfl, rfl⟩
            have : nextB bs 0 (k + 1) = nextB bs 0 k := by
              cases hn : nextB bs 0 k with
              | none => exact (h4 (optZ_neg.2 hn)).elim
              | some j => rw [hsp, hn]
            rw [this]; rfl
    · (conv => whnf); repeat first | (refine drw (by decide +kernel) ?_; conv => whnf) | (refine fun (_ : Nat) (_ : _ ≤ _) (_ : _ = none) => ?_; conv => whnf)
      have hkm : k = m := by omega
      have : firstB bs i from_ = optZ (nextB bs 0 k) := by
        unfold firstB
        rw [hf, hmm, nextB_none bs (m - f) f (fun l h3 h4 => hall l h3 (by omega))]
        show optZ _ = _
        have h5 : nextB bs 0 (min m f) = nextB bs 0 k := by rw [hkm]; exact nextB_min bs m f (fun l h3 h4 => hall l h3 (by omega))
        rw [h5]
      rw [this]
      first | done | rfl
  · (conv => whnf); repeat first | (refine drw (by decide +kernel) ?_; conv => whnf) | (refine fun (_ : Nat) (_ : _ ≤ _) (_ : _ = none) => ?_; conv => whnf)
    refine vif_dec (fun h2 => ?_) (fun h2 => ?_)
    · obtain ⟨f, hf, hfv⟩ : ∃ f : Nat, fromB i from_ = f ∧ (f : Int) = 0 := ⟨0, by unfold fromB; rw [if_pos (.inr h2)], rfl⟩
      (conv => whnf); repeat first | (refine drw (by decide +kernel) ?_; conv => whnf) | (refine fun (_ : Nat) (_ : _ ≤ _) (_ : _ = none) => ?_; conv => whnf)
      (refine VCall.pure_ (by kernel_rfl) (fun w hs => bmost_ok _ _ _ hlen _ w hn) ?_); (conv => whnf); repeat first | (refine drw (by decide +kernel) ?_; conv => whnf) | (refine fun (_ : Nat) (_ : _ ≤ _) (_ : _ = none) => ?_; conv => whnf)
      generalize hmm : mostB bs i = m at *
      refine VLoop.of (X := Nat) (fun k => [(21, .v (.int .i64 k)), (20, .v (.int .i64 m)), (0, .v (yV a n c)), (2, .v (iV f)), (6, .v (iV 0)), (8, .v (iV (optZ (nextB bs 0 k))))]) (fun _ => []) (fun _ => H)
        (fun k => k ≤ m ∧ ∀ l, f ≤ l → l < k → bitN bs l = true) (fun k => m - k) tabH (by kernel_rfl) 0 ⟨Nat.zero_le _, fun l _ h => by omega⟩ ⟨rfl, rfl, rfl, congrArg (fun n => some (SV.v (.int .i64 n))) hfv.symm, rfl, rfl, trivial⟩ rfl rfl ?_
      intro k hk
      obtain ⟨hk, hall⟩ := hk
      have hsp := nextB_succ bs k
      (conv => whnf); repeat first | (refine drw (by decide +kernel) ?_; conv => whnf) | (refine fun (_ : Nat) (_ : _ ≤ _) (_ : _ = none) => ?_; conv => whnf)
      refine vif_dec (fun h1 => ?_) (fun h1 => ?_)
      · have nx : IntKind.wrap .i64 ((k : Int) + 1) = ((k + 1 : Nat) : Int) := by rw [wrap64 (by omega)]; rfl
        (conv => whnf); repeat first | (refine drw (by decide +kernel) ?_; conv => whnf) | (refine fun (_ : Nat) (_ : _ ≤ _) (_ : _ = none) => ?_; conv => whnf)
        (refine VCall.pure_ (by kernel_rfl) (fun w hs => bget_ok _ w hs hb hn) ?_); (conv => whnf); repeat first | (refine drw (by decide +kernel) ?_; conv => whnf) | (refine fun (_ : Nat) (_ : _ ≤ _) (_ : _ = none) => ?_; conv => whnf)
        have e : bitZ bs (k : Int) = bitN bs k := by simp [bitZ]
        rw [e]
        refine vif_intro (fun h2 => ?_) (fun h2 => ?_)
        · (conv => whnf); repeat first | (refine drw (by decide +kernel) ?_; conv => whnf) | (refine fun (_ : Nat) (_ : _ ≤ _) (_ : _ = none) => ?_; conv => whnf)
          refine ⟨k + 1, ⟨by omega, fun l h3 h4 => ?_⟩, by omega, ⟨congrArg (fun n => some (SV.v (.int .i64 n))) nx, rfl, rfl, rfl, rfl, ?_, trivial⟩, rfl, rfl⟩
          · by_cases hl : l = k
            · rw [hl]; exact h2
            · exact hall l h3 (by omega)
          · have : nextB bs 0 (k + 1) = nextB bs 0 k := by
              rw [hsp, h2]; cases nextB bs 0 k <;> rfl
            rw [this]; rfl
        · (conv => whnf); repeat first | (refine drw (by decide +kernel) ?_; conv => whnf) | (refine fun (_ : Nat) (_ : _ ≤ _) (_ : _ = none) => ?_; conv => whnf)
          refine vif_dec (fun h3 => ?_) (fun h3 => ?_)
          · (conv => whnf); repeat first | (refine drw (by decide +kernel) ?_; conv => whnf) | (refine fun (_ : Nat) (_ : _ ≤ _) (_ : _ = none) => ?_; conv => whnf)
            have : firstB bs i from_ = (k : Int) := by
              unfold firstB
              rw [hf, hmm, nextB_some bs (m - f) f k (by omega) (by omega) h2 hall]
            rw [this]; rfl
          · (conv => whnf); repeat first | (refine drw (by decide +kernel) ?_; conv => whnf) | (refine fun (_ : Nat) (_ : _ ≤ _) (_ : _ = none) => ?_; conv => whnf)
            refine vif_dec (fun h4 => ?_) (fun h4 => ?_)
            · (conv => whnf); repeat first | (refine drw (by decide +kernel) ?_; conv => whnf) | (refine fun (_ : Nat) (_ : _ ≤ _) (_ : _ = none) => ?_; conv => whnf)
              refine ⟨k + 1, ⟨by omega, fun l h5 h6 => by omega⟩, by omega, ⟨congrArg (fun n => some (SV.v (.int .i64 n))) nx, rfl, rfl, rfl, rfl, ?_, trivial⟩, rfl, rfl⟩
              have : nextB bs 0 (k + 1) = some k := by
                rw [hsp, optZ_neg.1 h4]; simp [h2]
              rw [this]; rfl
            · (conv => whnf); repeat first | (refine drw (by decide +kernel) ?_; conv => whnf) | (refine fun (_ : Nat) (_ : _ ≤ _) (_ : _ = none) => ?_; conv => whnf)
              refine ⟨k + 1, ⟨by omega, fun l h5 h6 => by omega⟩, by omega, ⟨congrArg (fun n => some (SV.v (.int .i64 n))) nx, rfl, rfl, rfl, rfl, ?_, trivial⟩, rfl, rfl⟩
              have : nextB bs 0 (k + 1) = nextB bs 0 k := by
                cases hn : nextB bs 0 k with
                | none => exact (h4 (optZ_neg.2 hn)).elim
                | some j => rw [hsp, hn]
              rw [this]; rfl
      · (conv => whnf); repeat first | (refine drw (by decide +kernel) ?_; conv => whnf) | (refine fun (_ : Nat) (_ : _ ≤ _) (_ : _ = none) => ?_; conv => whnf)
        have hkm : k = m := by omega
        have : firstB bs i from_ = optZ (nextB bs 0 k) := by
          unfold firstB
          rw [hf, hmm, nextB_none bs (m - f) f (fun l h3 h4 => hall l h3 (by omega))]
          show optZ _ = _
          have h5 : nextB bs 0 (min m f) = nextB bs 0 k := by rw [hkm]; exact nextB_min bs m f (fun l h3 h4 => hall l h3 (by omega))
          rw [h5]
        rw [this]
        first | done | rfl
    · obtain ⟨f, hf, hfv⟩ : ∃ f : Nat, fromB i from_ = f ∧ (f : Int) = from_ := ⟨from_.toNat, by unfold fromB; rw [if_neg (by omega)], by omega⟩
      (conv => whnf); repeat first | (refine drw (by decide +kernel) ?_; conv => whnf) | (refine fun (_ : Nat) (_ : _ ≤ _) (_ : _ = none) => ?_; conv => whnf)
      (refine VCall.pure_ (by kernel_rfl) (fun w hs => bmost_ok _ _ _ hlen _ w hn) ?_); (conv => whnf); repeat first | (refine drw (by decide +kernel) ?_; conv => whnf) | (refine fun (_ : Nat) (_ : _ ≤ _) (_ : _ = none) => ?_; conv => whnf)
      generalize hmm : mostB bs i = m at *
      refine VLoop.of (X := Nat) (fun k => [(21, .v (.int .i64 k)), (20, .v (.int .i64 m)), (0, .v (yV a n c)), (2, .v (iV f)), (6, .v (iV 0)), (8, .v (iV (optZ (nextB bs 0 k))))]) (fun _ => []) (fun _ => H)
        (fun k => k ≤ m ∧ ∀ l, f ≤ l → l < k → bitN bs l = true) (fun k => m - k) tabH (by kernel_rfl) 0 ⟨Nat.zero_le _, fun l _ h => by omega⟩ ⟨rfl, rfl, rfl, congrArg (fun n => some (SV.v (.int .i64 n))) hfv.symm, rfl, rfl, trivial⟩ rfl rfl ?_
      intro k hk
      obtain ⟨hk, hall⟩ := hk
      have hsp := nextB_succ bs k
      (conv => whnf); repeat first | (refine drw (by decide +kernel) ?_; conv => whnf) | (refine fun (_ : Nat) (_ : _ ≤ _) (_ : _ = none) => ?_; conv => whnf)
      refine vif_dec (fun h1 => ?_) (fun h1 => ?_)
      · have nx : IntKind.wrap .i64 ((k : Int) + 1) = ((k + 1 : Nat) : Int) := by rw [wrap64 (by omega)]; rfl
        (conv => whnf); repeat first | (refine drw (by decide +kernel) ?_; conv => whnf) | (refine fun (_ : Nat) (_ : _ ≤ _) (_ : _ = none) => ?_; conv => whnf)
        (refine VCall.pure_ (by kernel_rfl) (fun w hs => bget_ok _ w hs hb hn) ?_); (conv => whnf); repeat first | (refine drw (by decide +kernel) ?_; conv => whnf) | (refine fun (_ : Nat) (_ : _ ≤ _) (_ : _ = none) => ?_; conv => whnf)
        have e : bitZ bs (k : Int) = bitN bs k := by simp [bitZ]
        rw [e]
        refine vif_intro (fun h2 => ?_) (fun h2 => ?_)
        · (conv => whnf); repeat first | (refine drw (by decide +kernel) ?_; conv => whnf) | (refine fun (_ : Nat) (_ : _ ≤ _) (_ : _ = none) => ?_; conv => whnf)
          refine ⟨k + 1, ⟨by omega, fun l h3 h4 => ?_⟩, by omega, ⟨congrArg (fun n => some (SV.v (.int .i64 n))) nx, rfl, rfl, rfl, rfl, ?_, trivial⟩, rfl, rfl⟩
          · by_cases hl : l = k
            · rw [hl]; exact h2
            · exact hall l h3 (by omega)
          · have : nextB bs 0 (k + 1) = nextB bs 0 k := by
              rw [hsp, h2]; cases nextB bs 0 k <;> rfl
            rw [this]; rfl
        · (conv => whnf); repeat first | (refine drw (by decide +kernel) ?_; conv => whnf) | (refine fun (_ : Nat) (_ : _ ≤ _) (_ : _ = none) => ?_; conv => whnf)
          refine vif_dec (fun h3 => ?_) (fun h3 => ?_)
          · (conv => whnf); repeat first | (refine drw (by decide +kernel) ?_; conv => whnf) | (refine fun (_ : Nat) (_ : _ ≤ _) (_ : _ = none) => ?_; conv => whnf)
            have : firstB bs i from_ = (k : Int) := by
              unfold firstB
              rw [hf, hmm, nextB_some bs (m - f) f k (by omega) (by omega) h2 hall]
            rw [this]; rfl
          · (conv => whnf); repeat first | (refine drw (by decide +kernel) ?_; conv => whnf) | (refine fun (_ : Nat) (_ : _ ≤ _) (_ : _ = none) => ?_; conv => whnf)
            refine vif_dec (fun h4 => ?_) (fun h4 => ?_)
            · (conv => whnf); repeat first | (refine drw (by decide +kernel) ?_; conv => whnf) | (refine fun (_ : Nat) (_ : _ ≤ _) (_ : _ = none) => ?_; conv => whnf)
              refine ⟨k + 1, ⟨by omega, fun l h5 h6 => by omega⟩, by omega, ⟨congrArg (fun n => some (SV.v (.int .i64 n))) nx, rfl, rfl, rfl, rfl, ?_, trivial⟩, rfl, rfl⟩
              have : nextB bs 0 (k + 1) = some k := by
                rw [hsp, optZ_neg.1 h4]; simp [h2]
              rw [this]; rfl
            · (conv => whnf); repeat first | (refine drw (by decide +kernel) ?_; conv => whnf) | (refine fun (_ : Nat) (_ : _ ≤ _) (_ : _ = none) => ?_; conv => whnf)
              refine ⟨k + 1, ⟨by omega, fun l h5 h6 => by omega⟩, by omega, ⟨congrArg (fun n => some (SV.v (.int .i64 n))) nx, rfl, rfl, rfl, rfl, ?_, trivial⟩, rfl, rfl⟩
              have : nextB bs 0 (k + 1) = nextB bs 0 k := by
                cases hn : nextB bs 0 k with
                | none => exact (h4 (optZ_neg.2 hn)).elim
                | some j => rw [hsp, hn]
              rw [this]; rfl
      · (conv => whnf); repeat first | (refine drw (by decide +kernel) ?_; conv => whnf) | (refine fun (_ : Nat) (_ : _ ≤ _) (_ : _ = none) => ?_; conv => whnf)
        have hkm : k = m := by omega
        have : firstB bs i from_ = optZ (nextB bs 0 k) := by
          unfold firstB
          rw [hf, hmm, nextB_none bs (m - f) f (fun l h3 h4 => hall l h3 (by omega))]
          show optZ _ = _
          have h5 : nextB bs 0 (min m f) = nextB bs 0 k := by rw [hkm]; exact nextB_min bs m f (fun l h3 h4 => hall l h3 (by omega))
          rw [h5]
        rw [this]
        first | done | rfl

theorem bset_ok {H : HV} {a : Option Addr} {n c : Nat} {bs : List UInt8} (i : Int) (on : Bool) (w : World) (hs : ∀ i o, H i = some o → w.heap[i]? = some o) (hb : BS H a n c bs) (hn : n < 281474976710656) :
    Calls Tryz.prog 301 #[yV a n c, iV i, bV on] w (Ret H (fun _ => False) (fun v H1 => Is (
      if 0 ≤ i ∧ i < 8 * n then ∃ r, v = .tuple #[fresh r n, iV 0] ∧ H r = none ∧ BO H1 r (setB bs i.toNat on) else v = .tuple #[nilS, iV 3])) w) := by
  have hlen := hb.len
  refine fn_ret (args := [yV a n c, iV i, bV on]) tabH Tryz.func301 rfl (by kernel_rfl)  hs ?_
  (conv => whnf); repeat first | (refine drw (by decide +kernel) ?_; conv => whnf) | (refine fun (_ : Nat) (_ : _ ≤ _) (_ : _ = none) => ?_; conv => whnf)
  (refine VCall.pure_ (by kernel_rfl) (fun w hs => bthere_ok _ _ _ _ w hn) ?_); (conv => whnf); repeat first | (refine drw (by decide +kernel) ?_; conv => whnf) | (refine fun (_ : Nat) (_ : _ ≤ _) (_ : _ = none) => ?_; conv => whnf)
  refine vif_not (fun h1 => ?_) (fun h1 => ?_)
  · (conv => whnf); repeat first | (refine drw (by decide +kernel) ?_; conv => whnf) | (refine fun (_ : Nat) (_ : _ ≤ _) (_ : _ = none) => ?_; conv => whnf)
    exact ⟨by rw [if_neg h1]; rfl⟩
  · obtain ⟨k, rfl⟩ : ∃ k : Nat, i = k := ⟨i.toNat, by omega⟩
    have hk : k < 8 * n := by omega
    (conv => whnf); repeat first | (refine drw (by decide +kernel) ?_; conv => whnf) | (refine fun (_ : Nat) (_ : _ ≤ _) (_ : _ = none) => ?_; conv => whnf)
    refine ⟨⟨by omega, by omega, by omega, by show (1 : Int) * n ≤ _; omega⟩, ?_⟩
    intro r H1 hB hN hE
    (conv => whnf); repeat first | (refine drw (by decide +kernel) ?_; conv => whnf) | (refine fun (_ : Nat) (_ : _ ≤ _) (_ : _ = none) => ?_; conv => whnf)
    have hb0 : BO H1 r (List.replicate n 0) := bo_made hE.new
    have hb1 := hb.mono hE.old
    have e1 : min n (n : Int).toNat = n := by simp
    refine ⟨bytesV (bs.take (min n (n : Int).toNat)), hb1.take _ (by omega), ?_⟩
    have e2 : bs.take (min n (n : Int).toNat) = bs := by rw [e1, ← hlen, List.take_length]
    rw [e2]
    refine BO.store hb0 bs 0 (by simp; omega) (.inr hB) ?_
    intro H2 hk2 hb2
    have hb2' : BO H2 r bs := by
      have : splice (List.replicate n 0) 0 bs = bs := by simp [splice, hlen]
      rw [← this]; exact hb2
    (conv => whnf); repeat first | (refine drw (by decide +kernel) ?_; conv => whnf) | (refine fun (_ : Nat) (_ : _ ≤ _) (_ : _ = none) => ?_; conv => whnf)
    refine ⟨by decide, ?_⟩
    (conv => whnf); repeat first | (refine drw (by decide +kernel) ?_; conv => whnf) | (refine fun (_ : Nat) (_ : _ ≤ _) (_ : _ = none) => ?_; conv => whnf)
    have e1 : IntKind.i64.wrap ((k : Int).tdiv 8) = ((k / 8 : Nat) : Int) := by rw [tdiv_nn (by omega), wrap64 (by omega)]; rfl
    have e2 : (k : Int).tmod 8 = ((k % 8 : Nat) : Int) := by rw [tmod_nn (by omega)]; rfl
    rw [e1]
    refine ⟨⟨by omega, by omega⟩, ?_⟩
    (conv => whnf); repeat first | (refine drw (by decide +kernel) ?_; conv => whnf) | (refine fun (_ : Nat) (_ : _ ≤ _) (_ : _ = none) => ?_; conv => whnf)
    refine ⟨_, (hb2'.all' hlen n (by omega)).get (k / 8) (by omega), ?_⟩
    (conv => whnf); repeat first | (refine drw (by decide +kernel) ?_; conv => whnf) | (refine fun (_ : Nat) (_ : _ ≤ _) (_ : _ = none) => ?_; conv => whnf)
    refine ⟨by decide, ?_⟩
    (conv => whnf); repeat first | (refine drw (by decide +kernel) ?_; conv => whnf) | (refine fun (_ : Nat) (_ : _ ≤ _) (_ : _ = none) => ?_; conv => whnf)
    rw [e2]
    refine ⟨by omega, ?_⟩
    (conv => whnf); repeat first | (refine drw (by decide +kernel) ?_; conv => whnf) | (refine fun (_ : Nat) (_ : _ ≤ _) (_ : _ = none) => ?_; conv => whnf)
    refine ⟨⟨by omega, by omega⟩, ?_⟩
    (conv => whnf); repeat first | (refine drw (by decide +kernel) ?_; conv => whnf) | (refine fun (_ : Nat) (_ : _ ≤ _) (_ : _ = none) => ?_; conv => whnf)
    have hmk := wrap_mask (k := k % 8) (by omega)
    have hset : ∀ x, (bs.set (k / 8) x).length = n := fun x => by simp [hlen]
    refine ⟨rfl, BO.put1 hb2' (k / 8) (by omega) (bs.getD (k / 8) 0 &&& ~~~ mask (k % 8)) ?_ (.inr hB) ?_⟩
    · rw [← bitI_u8n, ← hmk]; rfl
    intro H3 hk3 hb3
    cases on with
    | false =>
      (conv => whnf); repeat first | (refine drw (by decide +kernel) ?_; conv => whnf) | (refine fun (_ : Nat) (_ : _ ≤ _) (_ : _ = none) => ?_; conv => whnf)
      refine ⟨?_⟩
      rw [if_pos h1]
      exact ⟨r, rfl, hN, hb3⟩
    | true =>
      (conv => whnf); repeat first | (refine drw (by decide +kernel) ?_; conv => whnf) | (refine fun (_ : Nat) (_ : _ ≤ _) (_ : _ = none) => ?_; conv => whnf)
      refine ⟨by decide, ?_⟩
      (conv => whnf); repeat first | (refine drw (by decide +kernel) ?_; conv => whnf) | (refine fun (_ : Nat) (_ : _ ≤ _) (_ : _ = none) => ?_; conv => whnf)
      rw [e1]
      refine ⟨⟨by omega, by omega⟩, ?_⟩
      (conv => whnf); repeat first | (refine drw (by decide +kernel) ?_; conv => whnf) | (refine fun (_ : Nat) (_ : _ ≤ _) (_ : _ = none) => ?_; conv => whnf)
      refine ⟨_, (hb3.all' (hset _) n (by omega)).get (k / 8) (by omega), ?_⟩
      (conv => whnf); repeat first | (refine drw (by decide +kernel) ?_; conv => whnf) | (refine fun (_ : Nat) (_ : _ ≤ _) (_ : _ = none) => ?_; conv => whnf)
      rw [getD_set _ _ _ (by omega)]
      refine ⟨by decide, ?_⟩
      (conv => whnf); repeat first | (refine drw (by decide +kernel) ?_; conv => whnf) | (refine fun (_ : Nat) (_ : _ ≤ _) (_ : _ = none) => ?_; conv => whnf)
      rw [e2]
      refine ⟨by omega, ?_⟩
      (conv => whnf); repeat first | (refine drw (by decide +kernel) ?_; conv => whnf) | (refine fun (_ : Nat) (_ : _ ≤ _) (_ : _ = none) => ?_; conv => whnf)
      refine ⟨⟨by omega, by omega⟩, ?_⟩
      (conv => whnf); repeat first | (refine drw (by decide +kernel) ?_; conv => whnf) | (refine fun (_ : Nat) (_ : _ ≤ _) (_ : _ = none) => ?_; conv => whnf)
      refine ⟨rfl, BO.put1 hb3 (k / 8) (by rw [hset]; omega) ((bs.getD (k / 8) 0 &&& ~~~ mask (k % 8)) ||| mask (k % 8)) ?_ (.inr hB) ?_⟩
      · rw [← (bitI_u8 _ _).1, ← hmk]; rfl
      intro H4 hk4 hb4
      (conv => whnf); repeat first | (refine drw (by decide +kernel) ?_; conv => whnf) | (refine fun (_ : Nat) (_ : _ ≤ _) (_ : _ = none) => ?_; conv => whnf)
      refine ⟨?_⟩
      rw [if_pos h1]
      refine ⟨r, rfl, hN, ?_⟩
      rw [List.set_set] at hb4
      exact hb4
end Go.Proofs.YtlkgjffffeohdaaGreat
