/- Inodes as bytes: written and read. -/
import Derived.Test.YtlkgjffffeohdaaGreatInode
set_option linter.unusedVariables false
set_option linter.unusedSimpArgs false
namespace Go.Proofs.YtlkgjffffeohdaaGreat
open Go Go.Eng Go.Proofs

theorem nright_small {n : Nd} (h : n.right = true) : 0 ≤ n.k ∧ n.k ≤ 3 ∧ 0 ≤ n.l ∧ n.l ≤ 1000 ∧ 0 ≤ n.s ∧ n.s ≤ 1066496 ∧ 0 ≤ n.d ∧ n.d ≤ 4611686018427387904 ∧ ∀ j, j < 8 → 0 ≤ n.all.getD j 0 ∧ n.all.getD j 0 < 4096 := by
  unfold Nd.right at h
  rw [Bool.and_eq_true] at h
  obtain ⟨h1, h2⟩ := h
  have hp : ∀ j, j < 8 → 0 ≤ n.all.getD j 0 ∧ n.all.getD j 0 < 4096 := by
    intro j hj
    have hm : n.all.getD j 0 ∈ n.all := by
      rw [List.getD, List.getElem?_eq_getElem (show j < n.all.length from hj)]
      exact List.getElem_mem _
    have := List.all_eq_true.1 h1 _ hm
    unfold in4096 at this
    exact of_decide_eq_true this
  by_cases h0 : n.k = 0
  · rw [if_pos h0] at h2
    have := of_decide_eq_true h2
    rw [this] at hp ⊢
    exact ⟨by decide, by decide, by decide, by decide, by decide, by decide, by decide, by decide, hp⟩
  · have hs : n.sized = true ∧ (n.k = 1 ∨ n.k = 2 ∨ n.k = 3) := by
      rw [if_neg h0] at h2
      split at h2
      · rename_i hk; rw [Bool.and_eq_true] at h2; exact ⟨h2.1, by omega⟩
      · split at h2
        · exact ⟨h2, by omega⟩
        · split at h2
          · rw [Bool.and_eq_true] at h2; exact ⟨h2.1, by omega⟩
          · cases h2
    have := of_decide_eq_true hs.1
    refine ⟨by omega, by omega, by omega, by omega, by omega, by omega, by omega, by omega, hp⟩

/-- an inode's bytes, as far as some of its blocks -/
def nodeB (n : Nd) : Nat → List UInt8
  | 0 => splice (splice (splice ((List.replicate 64 0).set 0 (UInt8.ofNat n.k.toNat)) 2 (leB 2 n.l.toNat)) 4 (leB 4 n.s.toNat)) 8 (leB 8 n.d.toNat)
  | k + 1 => splice (nodeB n k) (16 + 2 * k) (leB 2 (n.all.getD k 0).toNat)
theorem nodeB_len (n : Nd) : ∀ k, k ≤ 8 → (nodeB n k).length = 64
  | 0, _ => by
    have l2 := leB_length 2 n.l.toNat
    have l4 := leB_length 4 n.s.toNat
    have l8 := leB_length 8 n.d.toNat
    have l0 : ((List.replicate 64 (0 : UInt8)).set 0 (UInt8.ofNat n.k.toNat)).length = 64 := by rw [List.length_set, List.length_replicate]
    show (splice (splice (splice _ _ _) _ _) _ _).length = 64
    have e1 := splice_length (bs := (List.replicate 64 (0 : UInt8)).set 0 (UInt8.ofNat n.k.toNat)) (off := 2) (xs := leB 2 n.l.toNat) (by omega)
    have e2 := splice_length (bs := splice ((List.replicate 64 (0 : UInt8)).set 0 (UInt8.ofNat n.k.toNat)) 2 (leB 2 n.l.toNat)) (off := 4) (xs := leB 4 n.s.toNat) (by omega)
    rw [splice_length (by omega)]; omega
  | k + 1, hk => by
    have ih := nodeB_len n k (by omega)
    have h2 := leB_length 2 (n.all.getD k 0).toNat
    show (splice _ _ _).length = _
    rw [splice_length (by omega)]; exact ih

theorem iput_ok {H : HV} (n : Nd) (w : World) (hs : ∀ i o, H i = some o → w.heap[i]? = some o) : Calls Tryz.prog 130 #[nV n] w (Ret H (fun _ => False) (fun v H1 => Is (
    if n.right = true then ∃ r, v = .tuple #[fresh r 64, iV 0] ∧ H r = none ∧ BO H1 r (nodeB n 8) else v = .tuple #[nilS, iV 1])) w) := by
  refine fn_ret (args := [nV n]) tabH Tryz.func130 rfl (by kernel_rfl)  hs ?_
  (conv => whnf); repeat first | (refine drw (by decide +kernel) ?_; conv => whnf) | (refine fun (_ : Nat) (_ : _ ≤ _) (_ : _ = none) => ?_; conv => whnf)
  intro r1 H1 hB1 hN1 hE1
  have ho1 : IO_ H1 r1 n.is := ⟨_, hE1.new⟩
  (conv => whnf); repeat first | (refine drw (by decide +kernel) ?_; conv => whnf) | (refine fun (_ : Nat) (_ : _ ≤ _) (_ : _ = none) => ?_; conv => whnf)
  refine ⟨_, ho1.all rfl, ?_⟩
  (conv => whnf); repeat first | (refine drw (by decide +kernel) ?_; conv => whnf) | (refine fun (_ : Nat) (_ : _ ≤ _) (_ : _ = none) => ?_; conv => whnf)
  (refine VCall.pure_ (by kernel_rfl) (fun w hs => iright_ok n w) ?_); (conv => whnf); repeat first | (refine drw (by decide +kernel) ?_; conv => whnf) | (refine fun (_ : Nat) (_ : _ ≤ _) (_ : _ = none) => ?_; conv => whnf)
  refine vif_intro (fun h1 => ?_) (fun h1 => ?_)
  · (conv => whnf); repeat first | (refine drw (by decide +kernel) ?_; conv => whnf) | (refine fun (_ : Nat) (_ : _ ≤ _) (_ : _ = none) => ?_; conv => whnf)
    exact ⟨by rw [if_neg (by simpa using h1)]; rfl⟩
  · have hr : n.right = true := by simpa using h1
    have hsm := nright_small hr
    (conv => whnf); repeat first | (refine drw (by decide +kernel) ?_; conv => whnf) | (refine fun (_ : Nat) (_ : _ ≤ _) (_ : _ = none) => ?_; conv => whnf)
    refine ⟨by decide, ?_⟩
    intro r2 H2 hB2 hN2 hE2
    have n12 : r1 ≠ r2 := fun e => by subst e; obtain ⟨_, h⟩ := ho1; rw [h] at hN2; cases hN2
    have hb2 : BO H2 r2 (List.replicate 64 0) := bo_made hE2.new
    have ho2 := ho1.mono (fun o ho => hE2.old _ _ ho)
    (conv => whnf); repeat first | (refine drw (by decide +kernel) ?_; conv => whnf) | (refine fun (_ : Nat) (_ : _ ≤ _) (_ : _ = none) => ?_; conv => whnf)
    refine ⟨.int .i64 n.k, ndCell ho2 0 rfl, ?_⟩
    (conv => whnf); repeat first | (refine drw (by decide +kernel) ?_; conv => whnf) | (refine fun (_ : Nat) (_ : _ ≤ _) (_ : _ = none) => ?_; conv => whnf)
    refine ⟨⟨by decide, by decide⟩, ?_⟩
    (conv => whnf); repeat first | (refine drw (by decide +kernel) ?_; conv => whnf) | (refine fun (_ : Nat) (_ : _ ≤ _) (_ : _ = none) => ?_; conv => whnf)
    have ek : IntKind.u8.wrap n.k = ((UInt8.ofNat n.k.toNat).toNat : Int) := by
      rw [← wrap_u8]; congr 1; omega
    rw [ek]
    refine ⟨rfl, BO.store hb2 [UInt8.ofNat n.k.toNat] 0 (by rw [List.length_replicate]; exact Nat.le_of_ble_eq_true rfl) (.inr hB2) ?_⟩
    intro H3 hk3 hb3
    rw [splice_one _ _ _ (by rw [List.length_replicate]; decide)] at hb3
    have ho3 := ho2.mono (fun o ho => hk3 _ _ n12 ho)
    (conv => whnf); repeat first | (refine drw (by decide +kernel) ?_; conv => whnf) | (refine fun (_ : Nat) (_ : _ ≤ _) (_ : _ = none) => ?_; conv => whnf)
    refine ⟨⟨by decide, by decide, by decide⟩, ?_⟩
    (conv => whnf); repeat first | (refine drw (by decide +kernel) ?_; conv => whnf) | (refine fun (_ : Nat) (_ : _ ≤ _) (_ : _ = none) => ?_; conv => whnf)
    refine ⟨.int .i64 n.l, ndCell ho3 1 rfl, ?_⟩
    (conv => whnf); repeat first | (refine drw (by decide +kernel) ?_; conv => whnf) | (refine fun (_ : Nat) (_ : _ ≤ _) (_ : _ = none) => ?_; conv => whnf)
    (refine VCall.ret (by kernel_rfl) (fun w hs => nput_ok' n.l.toNat w hs hb3 (off2 := 2) (n2 := 2) rfl rfl (by rw [← wrap_u64 (by omega)]; congr 1; omega) (by rw [List.length_set, List.length_replicate]; decide) (by decide) (by omega)) ?_ ?_)
    · rintro i rfl
      exact ⟨(let ⟨_, _, h, _⟩ := hb3; ⟨_, h⟩), .inr hB2⟩
    rintro v1 H4 hk4 hd4 ⟨rfl, hb4⟩
    have ho4 := ho3.mono (fun o ho => hk4 _ _ ho n12)
    (conv => whnf); repeat first | (refine drw (by decide +kernel) ?_; conv => whnf) | (refine fun (_ : Nat) (_ : _ ≤ _) (_ : _ = none) => ?_; conv => whnf)
    refine ⟨⟨by decide, by decide, by decide⟩, ?_⟩
    (conv => whnf); repeat first | (refine drw (by decide +kernel) ?_; conv => whnf) | (refine fun (_ : Nat) (_ : _ ≤ _) (_ : _ = none) => ?_; conv => whnf)
    refine ⟨.int .i64 n.s, ndCell ho4 2 rfl, ?_⟩
    (conv => whnf); repeat first | (refine drw (by decide +kernel) ?_; conv => whnf) | (refine fun (_ : Nat) (_ : _ ≤ _) (_ : _ = none) => ?_; conv => whnf)
    have l2 := leB_length 2 n.l.toNat
    have l4 := leB_length 4 n.s.toNat
    have l8 := leB_length 8 n.d.toNat
    have l0 : ((List.replicate 64 (0 : UInt8)).set 0 (UInt8.ofNat n.k.toNat)).length = 64 := by rw [List.length_set, List.length_replicate]
    have e1 := splice_length (bs := (List.replicate 64 (0 : UInt8)).set 0 (UInt8.ofNat n.k.toNat)) (off := 2) (xs := leB 2 n.l.toNat) (by omega)
    have e2 := splice_length (bs := splice ((List.replicate 64 (0 : UInt8)).set 0 (UInt8.ofNat n.k.toNat)) 2 (leB 2 n.l.toNat)) (off := 4) (xs := leB 4 n.s.toNat) (by omega)
    (refine VCall.ret (by kernel_rfl) (fun w hs => nput_ok' n.s.toNat w hs hb4 (off2 := 4) (n2 := 4) rfl rfl (by rw [← wrap_u64 (by omega)]; congr 1; omega) (by omega) (by decide) (by omega)) ?_ ?_)
    · rintro i rfl
      exact ⟨(let ⟨_, _, h, _⟩ := hb4; ⟨_, h⟩), .inr hB2⟩
    rintro v1 H5 hk5 hd5 ⟨rfl, hb5⟩
    have ho5 := ho4.mono (fun o ho => hk5 _ _ ho n12)
    (conv => whnf); repeat first | (refine drw (by decide +kernel) ?_; conv => whnf) | (refine fun (_ : Nat) (_ : _ ≤ _) (_ : _ = none) => ?_; conv => whnf)
    refine ⟨⟨by decide, by decide, by decide⟩, ?_⟩
    (conv => whnf); repeat first | (refine drw (by decide +kernel) ?_; conv => whnf) | (refine fun (_ : Nat) (_ : _ ≤ _) (_ : _ = none) => ?_; conv => whnf)
    refine ⟨.int .i64 n.d, ndCell ho5 3 rfl, ?_⟩
    (conv => whnf); repeat first | (refine drw (by decide +kernel) ?_; conv => whnf) | (refine fun (_ : Nat) (_ : _ ≤ _) (_ : _ = none) => ?_; conv => whnf)
    (refine VCall.ret (by kernel_rfl) (fun w hs => nput_ok' n.d.toNat w hs hb5 (off2 := 8) (n2 := 8) rfl rfl (by rw [← wrap_u64 (by omega)]; congr 1; omega) (by omega) (by decide) (by omega)) ?_ ?_)
    · rintro i rfl
      exact ⟨(let ⟨_, _, h, _⟩ := hb5; ⟨_, h⟩), .inr hB2⟩
    rintro v1 H6 hk6 hd6 ⟨rfl, hb6⟩
    have ho6 := ho5.mono (fun o ho => hk6 _ _ ho n12)
    have hb6' : BO H6 r2 (nodeB n 0) := hb6
    (conv => whnf); repeat first | (refine drw (by decide +kernel) ?_; conv => whnf) | (refine fun (_ : Nat) (_ : _ ≤ _) (_ : _ = none) => ?_; conv => whnf)
    refine ⟨_, ho6.all rfl, ?_⟩
    (conv => whnf); repeat first | (refine drw (by decide +kernel) ?_; conv => whnf) | (refine fun (_ : Nat) (_ : _ ≤ _) (_ : _ = none) => ?_; conv => whnf)
    (refine VCall.pure_ (by kernel_rfl) (fun w hs => iall_ok n w) ?_); (conv => whnf); repeat first | (refine drw (by decide +kernel) ?_; conv => whnf) | (refine fun (_ : Nat) (_ : _ ≤ _) (_ : _ = none) => ?_; conv => whnf)
    refine VLoop.ok (X := Nat × HV) (fun x => [(36, .v (.int .i64 x.1)), (35, .v (.agg ⟨intsV n.all⟩)), (4, .v (fresh r2 64))]) (fun x => x.2)
      (fun x => x.1 ≤ 8 ∧ BO x.2 r2 (nodeB n x.1)) (fun x => 8 - x.1) tabH (by kernel_rfl) rfl (fun _ => rfl) (0, H6) ⟨Nat.zero_le _, hb6'⟩ ⟨rfl, rfl, rfl, trivial⟩ rfl ?_
    rintro x ⟨hi1, hi3⟩
    have hln := nodeB_len n x.1 hi1
    (conv => whnf); repeat first | (refine drw (by decide +kernel) ?_; conv => whnf) | (refine fun (_ : Nat) (_ : _ ≤ _) (_ : _ = none) => ?_; conv => whnf)
    refine vif_dec (fun h1 => ?_) (fun h1 => ?_)
    · have nx : IntKind.wrap .i64 ((x.1 : Int) + 1) = ((x.1 + 1 : Nat) : Int) := by rw [wrap64 (by omega)]; rfl
      have hx8 : x.1 < 8 := by omega
      have hv := hsm.2.2.2.2.2.2.2.2 x.1 hx8
      (conv => whnf); repeat first | (refine drw (by decide +kernel) ?_; conv => whnf) | (refine fun (_ : Nat) (_ : _ ≤ _) (_ : _ = none) => ?_; conv => whnf)
      refine ⟨⟨by omega, by omega⟩, ?_⟩
      (conv => whnf); repeat first | (refine drw (by decide +kernel) ?_; conv => whnf) | (refine fun (_ : Nat) (_ : _ ≤ _) (_ : _ = none) => ?_; conv => whnf)
      refine ⟨_, idx_ints n.all x.1 (by show x.1 < 8; omega), ?_⟩
      (conv => whnf); repeat first | (refine drw (by decide +kernel) ?_; conv => whnf) | (refine fun (_ : Nat) (_ : _ ≤ _) (_ : _ = none) => ?_; conv => whnf)
      have e1 : IntKind.i64.wrap (16 + IntKind.i64.wrap ((x.1 : Int) * 2)) = ((16 + 2 * x.1 : Nat) : Int) := by rw [wrap64 (n := (x.1 : Int) * 2) (by omega), wrap64 (by omega)]; omega
      have e2 : IntKind.i64.wrap (16 + IntKind.i64.wrap (IntKind.i64.wrap ((x.1 : Int) + 1) * 2)) = ((18 + 2 * x.1 : Nat) : Int) := by rw [wrap64 (n := (x.1 : Int) + 1) (by omega), wrap64 (n := ((x.1 : Int) + 1) * 2) (by omega), wrap64 (by omega)]; omega
      rw [e1, e2]
      refine ⟨⟨by omega, by omega, by omega⟩, ?_⟩
      (conv => whnf); repeat first | (refine drw (by decide +kernel) ?_; conv => whnf) | (refine fun (_ : Nat) (_ : _ ≤ _) (_ : _ = none) => ?_; conv => whnf)
      (refine VCall.ret (by kernel_rfl) (fun w hs => nput_ok' (n.all.getD x.1 0).toNat w hs hi3 (off2 := 16 + 2 * x.1) (n2 := 2) (by rw [if_neg (by show ¬ 64 = 16 + 2 * x.1; omega)]; show 0 + (16 + 2 * x.1) * 1 = _; omega) (by show 18 + 2 * x.1 - (16 + 2 * x.1) = 2; omega) (by rw [← wrap_u64 (by omega)]; congr 1; omega) (by omega) (by decide) (by omega)) ?_ ?_)
      · rintro i rfl
        exact ⟨(let ⟨_, _, h, _⟩ := hi3; ⟨_, h⟩), .inr hB2⟩
      rintro v1 H7 hk7 hd7 ⟨rfl, hb7⟩
      (conv => whnf); repeat first | (refine drw (by decide +kernel) ?_; conv => whnf) | (refine fun (_ : Nat) (_ : _ ≤ _) (_ : _ = none) => ?_; conv => whnf)
      exact ⟨(x.1 + 1, H7), ⟨by dsimp only; omega, hb7⟩, by dsimp only; omega, ⟨congrArg (fun n => some (SV.v (.int .i64 n))) nx, rfl, rfl, trivial⟩, ⟨[], rfl⟩, rfl⟩
    · have hx8 : x.1 = 8 := by omega
      rw [hx8] at hi3
      (conv => whnf); repeat first | (refine drw (by decide +kernel) ?_; conv => whnf) | (refine fun (_ : Nat) (_ : _ ≤ _) (_ : _ = none) => ?_; conv => whnf)
      exact ⟨by rw [if_pos hr]; exact ⟨r2, rfl, hE1.none hN2, hi3⟩⟩

theorem imay_ok (a : Option Addr) (n c : Nat) (p : Int) (w : World) : Calls Tryz.prog 210 #[yV a n c, iV p] w (RetP (iV (if n = 256 then (if p < 0 ∨ p ≥ 4 then 3 else 0) else 4)) w) := by
  refine fn_pure (H0 := (fun _ => none)) (args := [yV a n c, iV p]) tabH Tryz.func210 rfl (by kernel_rfl)  (fun _ _ h => by cases h) ?_
  (conv => whnf); repeat first | (refine drw (by decide +kernel) ?_; conv => whnf) | (refine fun (_ : Nat) (_ : _ ≤ _) (_ : _ = none) => ?_; conv => whnf)
  refine vif_not (fun h1 => ?_) (fun h1 => ?_)
  · (conv => whnf); repeat first | (refine drw (by decide +kernel) ?_; conv => whnf) | (refine fun (_ : Nat) (_ : _ ≤ _) (_ : _ = none) => ?_; conv => whnf)
    rw [if_neg (by omega)]; rfl
  · rw [if_pos (by omega)]
    (conv => whnf); repeat first | (refine drw (by decide +kernel) ?_; conv => whnf) | (refine fun (_ : Nat) (_ : _ ≤ _) (_ : _ = none) => ?_; conv => whnf)
    refine vif_dec (fun h2 => ?_) (fun h2 => ?_)
    · (conv => whnf); repeat first | (refine drw (by decide +kernel) ?_; conv => whnf) | (refine fun (_ : Nat) (_ : _ ≤ _) (_ : _ = none) => ?_; conv => whnf)
      rw [if_pos (.inl h2)]; rfl
    · (conv => whnf); repeat first | (refine drw (by decide +kernel) ?_; conv => whnf) | (refine fun (_ : Nat) (_ : _ ≤ _) (_ : _ = none) => ?_; conv => whnf)
      refine vif_dec (fun h3 => ?_) (fun h3 => ?_)
      · (conv => whnf); repeat first | (refine drw (by decide +kernel) ?_; conv => whnf) | (refine fun (_ : Nat) (_ : _ ≤ _) (_ : _ = none) => ?_; conv => whnf)
        rw [if_pos (.inr h3)]; rfl
      · (conv => whnf); repeat first | (refine drw (by decide +kernel) ?_; conv => whnf) | (refine fun (_ : Nat) (_ : _ ≤ _) (_ : _ = none) => ?_; conv => whnf)
        rw [if_neg (by omega)]; rfl

theorem ilay_ok {H : HV} {a : Option Addr} {n c : Nat} {bs : List UInt8} (p : Int) (d : Nd) (w : World) (hs : ∀ i o, H i = some o → w.heap[i]? = some o) (hb : BS H a n c bs) (hn : n < 281474976710656) :
    Calls Tryz.prog 175 #[yV a n c, iV p, nV d] w (Ret H (fun _ => False) (fun v H1 => Is (
      if n = 256 ∧ 0 ≤ p ∧ p < 4 ∧ d.right = true then ∃ r, v = .tuple #[fresh r n, iV 0] ∧ H r = none ∧ BO H1 r (splice bs (p.toNat * 64) (nodeB d 8)) else ∃ e, e ≠ 0 ∧ v = .tuple #[nilS, iV e])) w) := by
  have hlen := hb.len
  refine fn_ret (args := [yV a n c, iV p, nV d]) tabH Tryz.func175 rfl (by kernel_rfl)  hs ?_
  (conv => whnf); repeat first | (refine drw (by decide +kernel) ?_; conv => whnf) | (refine fun (_ : Nat) (_ : _ ≤ _) (_ : _ = none) => ?_; conv => whnf)
  intro r1 H1 hB1 hN1 hE1
  have ho1 : IO_ H1 r1 d.is := ⟨_, hE1.new⟩
  have hb1 := hb.mono hE1.old
  (conv => whnf); repeat first | (refine drw (by decide +kernel) ?_; conv => whnf) | (refine fun (_ : Nat) (_ : _ ≤ _) (_ : _ = none) => ?_; conv => whnf)
  (refine VCall.pure_ (by kernel_rfl) (fun w hs => imay_ok _ _ _ _ w) ?_); (conv => whnf); repeat first | (refine drw (by decide +kernel) ?_; conv => whnf) | (refine fun (_ : Nat) (_ : _ ≤ _) (_ : _ = none) => ?_; conv => whnf)
  by_cases h1 : n = 256
  · rw [if_pos h1]
    by_cases h2 : p < 0 ∨ p ≥ 4
    · rw [if_pos h2]
      (conv => whnf); repeat first | (refine drw (by decide +kernel) ?_; conv => whnf) | (refine fun (_ : Nat) (_ : _ ≤ _) (_ : _ = none) => ?_; conv => whnf)
      exact ⟨by rw [if_neg (by omega)]; exact ⟨3, by decide, rfl⟩⟩
    · rw [if_neg h2]
      (conv => whnf); repeat first | (refine drw (by decide +kernel) ?_; conv => whnf) | (refine fun (_ : Nat) (_ : _ ≤ _) (_ : _ = none) => ?_; conv => whnf)
      refine ⟨_, ho1.all rfl, ?_⟩
      (conv => whnf); repeat first | (refine drw (by decide +kernel) ?_; conv => whnf) | (refine fun (_ : Nat) (_ : _ ≤ _) (_ : _ = none) => ?_; conv => whnf)
      (refine VCall.ret (by kernel_rfl) (fun w hs => iput_ok d w hs) ?_ ?_)
      · exact fun i h => h.elim
      rintro v1 H2 hk2 hd2 ⟨hp⟩
      have hb2 := hb1.mono (fun i o h => hk2 i o h (fun h => h))
      by_cases h3 : d.right = true
      · rw [if_pos h3] at hp
        obtain ⟨r2, rfl, hn2, hb22⟩ := hp
        (conv => whnf); repeat first | (refine drw (by decide +kernel) ?_; conv => whnf) | (refine fun (_ : Nat) (_ : _ ≤ _) (_ : _ = none) => ?_; conv => whnf)
        rw [wrap64 (by omega)]
        have hnl := nodeB_len d 8 (Nat.le_refl _)
        (refine VCall.ret (by kernel_rfl) (fun w hs => nlay_ok (p * 64) w hs hb2 (hb22.all' hnl 64 (by decide)) hn) ?_ ?_)
        · exact fun i h => h.elim
        rintro v2 H3 hk3 hd3 ⟨hq⟩
        rw [if_pos (by omega)] at hq
        obtain ⟨r3, rfl, hn3, hb3⟩ := hq
        (conv => whnf); repeat first | (refine drw (by decide +kernel) ?_; conv => whnf) | (refine fun (_ : Nat) (_ : _ ≤ _) (_ : _ = none) => ?_; conv => whnf)
        refine ⟨?_⟩
        rw [if_pos ⟨h1, by omega, by omega, h3⟩]
        refine ⟨r3, rfl, ?_, ?_⟩
        · exact Sub.none (fun i o h => hk2 i o (hE1.old _ _ h) (fun h => h)) hn3
        · have e : (p * 64).toNat = p.toNat * 64 := by omega
          rw [← e]; exact hb3
      · rw [if_neg h3] at hp
        subst hp
        (conv => whnf); repeat first | (refine drw (by decide +kernel) ?_; conv => whnf) | (refine fun (_ : Nat) (_ : _ ≤ _) (_ : _ = none) => ?_; conv => whnf)
        exact ⟨by rw [if_neg (fun h => h3 h.2.2.2)]; exact ⟨1, by decide, rfl⟩⟩
  · rw [if_neg h1]
    (conv => whnf); repeat first | (refine drw (by decide +kernel) ?_; conv => whnf) | (refine fun (_ : Nat) (_ : _ ≤ _) (_ : _ = none) => ?_; conv => whnf)
    exact ⟨by rw [if_neg (fun h => h1 h.1)]; exact ⟨4, by decide, rfl⟩⟩

/-- the inode that bytes say -/
def nodeOf (bs : List UInt8) : Nd :=
  ⟨(bs.getD 0 0).toNat, leN ((bs.drop 2).take 2), leN ((bs.drop 4).take 4), IntKind.i64.wrap (leN ((bs.drop 8).take 8) : Nat),
   leN ((bs.drop 16).take 2), leN ((bs.drop 18).take 2), leN ((bs.drop 20).take 2), leN ((bs.drop 22).take 2), leN ((bs.drop 24).take 2), leN ((bs.drop 26).take 2), leN ((bs.drop 28).take 2), leN ((bs.drop 30).take 2)⟩

def getL (bs : List UInt8) (k : Nat) : List Int := (List.range 8).map (fun j => if j < k then (leN ((bs.drop (16 + 2 * j)).take 2) : Nat) else 0)
theorem getL_len (bs : List UInt8) (k : Nat) : (getL bs k).length = 8 := by simp [getL]
theorem getL_succ (bs : List UInt8) (k : Nat) : (getL bs k).set k ((leN ((bs.drop (16 + 2 * k)).take 2) : Nat) : Int) = getL bs (k + 1) := by
  refine List.ext_getElem (by simp [getL]) fun i h1 h2 => ?_
  simp only [getL, List.getElem_set, List.getElem_map, List.getElem_range]
  by_cases hk : k = i
  · subst hk; simp
  · rw [if_neg hk]
    by_cases hi : i < k
    · rw [if_pos hi, if_pos (by omega)]
    · rw [if_neg hi, if_neg (by omega)]

def getN (bs : List UInt8) : Nd × Int :=
  if bs.length = 64 then (if bs.getD 1 0 = 0 ∧ (bs.drop 32).all (· == 0) = true ∧ (nodeOf bs).right = true then (nodeOf bs, 0) else (nZ, 8)) else (nZ, 4)

def nVE (n : Nd) (e : Int) : Value := .tuple #[nV n, iV e]

theorem iget_ok {H : HV} {a : Option Addr} {n c : Nat} {bs : List UInt8} (w : World) (hs : ∀ i o, H i = some o → w.heap[i]? = some o) (hb : BS H a n c bs) (hn : n < 4611686018427387904) :
    Calls Tryz.prog 211 #[yV a n c] w (RetP (nVE (getN bs).1 (getN bs).2) w) := by
  have hlen := hb.len
  refine fn_pure (args := [yV a n c]) tabH Tryz.func211 rfl (by kernel_rfl)  hs ?_
  (conv => whnf); repeat first | (refine drw (by decide +kernel) ?_; conv => whnf) | (refine fun (_ : Nat) (_ : _ ≤ _) (_ : _ = none) => ?_; conv => whnf)
  intro r1 H1 hB1 hN1 hE1
  have ho1 : IO_ H1 r1 nZ.is := ⟨_, hE1.new⟩
  (conv => whnf); repeat first | (refine drw (by decide +kernel) ?_; conv => whnf) | (refine fun (_ : Nat) (_ : _ ≤ _) (_ : _ = none) => ?_; conv => whnf)
  refine vif_not (fun h1 => ?_) (fun h1 => ?_)
  · (conv => whnf); repeat first | (refine drw (by decide +kernel) ?_; conv => whnf) | (refine fun (_ : Nat) (_ : _ ≤ _) (_ : _ = none) => ?_; conv => whnf)
    refine ⟨rfl, IO_.store ho1 nZ.is 0 (Nat.le_of_ble_eq_true rfl) (.inr hB1) ?_⟩
    intro H2 hk2 ho2
    have ho2' : IO_ H2 r1 nZ.is := ho2
    (conv => whnf); repeat first | (refine drw (by decide +kernel) ?_; conv => whnf) | (refine fun (_ : Nat) (_ : _ ≤ _) (_ : _ = none) => ?_; conv => whnf)
    refine ⟨_, ho2'.all rfl, ?_⟩
    unfold getN; rw [if_neg (by omega)]; rfl
  · have hn64 : n = 64 := by omega
    subst hn64
    have hcap := hb.le
    obtain ⟨b, off, rfl⟩ := hb.nonempty (by omega)
    have hb1 := hb.mono hE1.old
    conv => whnf
    refine VDraw.cut (X := Nat × HV) (fun x => [(0, .v (yV (some ⟨b, off, none⟩) 64 c)), (2, .v (.pointer (some ⟨r1, 0, none⟩))), (3, .v (iV 0)), (4, .v (.pointer (some ⟨x.1, 0, none⟩)))]) [] (fun x => x.2)
      (fun x => w.heap.size ≤ x.1 ∧ H x.1 = none ∧ r1 ≠ x.1 ∧ Sub H x.2 ∧ IO_ x.2 r1 nZ.is ∧ IO_ x.2 x.1 [(nodeOf bs).k, (nodeOf bs).l, (nodeOf bs).s, (nodeOf bs).d, 0, 0, 0, 0, 0, 0, 0, 0]) rfl (fun _ => rfl) ?_ ?_
    · have kn := KnownC.c (hb1.get 0 (by omega)) []
      refine VDraw.float [(b, off + 0 * 1, [.int .u8 (bs.getD 0 0).toNat])] [2] 17 (List.range 17) [18] [6, 10, 14] tabH mixH (by kernel_rfl) ⟨kn, trivial⟩ ?_
      have hl2 : ((bs.drop 2).take 2).length = 2 := by simp; omega
      have hl4 : ((bs.drop 4).take 4).length = 4 := by simp; omega
      have hv2 := leN_lt ((bs.drop 2).take 2)
      have hv4 := leN_lt ((bs.drop 4).take 4)
      rw [hl2] at hv2
      rw [hl4] at hv4
      have hc0 := (bs.getD 0 0).toNat_lt
      have e0 : IntKind.i64.wrap ((bs.getD 0 0).toNat : Int) = (bs.getD 0 0).toNat := wrap64 (by omega)
      have e2 : IntKind.i64.wrap ((leN ((bs.drop 2).take 2) : Nat) : Int) = (leN ((bs.drop 2).take 2) : Nat) := wrap64 (by omega)
      have e4 : IntKind.i64.wrap ((leN ((bs.drop 4).take 4) : Nat) : Int) = (leN ((bs.drop 4).take 4) : Nat) := wrap64 (by omega)
      have hbx := hb1
      (conv => whnf); repeat (first | (refine fun (_ : Nat) (_ : _ ≤ _) (_ : _ = none) => ?_; conv => whnf) | (refine drw (by decide +kernel) ?_; conv => whnf) | (refine And.intro ?_ ?_; (focus (first | ((repeat (first | exact trivial | ((conv => whnf); refine And.intro (by first | exact .inr ⟨0, _, _, rfl, rfl, rfl⟩ | exact .inr ⟨1, _, _, rfl, rfl, rfl⟩ | exact .inr ⟨2, _, _, rfl, rfl, rfl⟩ | exact .inr ⟨3, _, _, rfl, rfl, rfl⟩ | assumption) ?_))); done) | ((conv => whnf); first | exact ⟨0, 0, _, _, _, rfl, (Nat.zero_add _).symm, rfl, rfl⟩ | exact ⟨1, 0, _, _, _, rfl, (Nat.zero_add _).symm, rfl, rfl⟩ | exact ⟨2, 0, _, _, _, rfl, (Nat.zero_add _).symm, rfl, rfl⟩ | exact ⟨3, 0, _, _, _, rfl, (Nat.zero_add _).symm, rfl, rfl⟩ | exact ⟨0, _, 0, _, _, rfl, rfl, rfl, rfl⟩ | exact ⟨1, _, 0, _, _, rfl, rfl, rfl, rfl⟩ | exact ⟨2, _, 0, _, _, rfl, rfl, rfl, rfl⟩ | exact ⟨3, _, 0, _, _, rfl, rfl, rfl, rfl⟩))); conv => whnf))
      refine ⟨⟨by decide, by decide⟩, ?_⟩
      (conv => whnf); repeat (first | (refine fun (_ : Nat) (_ : _ ≤ _) (_ : _ = none) => ?_; conv => whnf) | (refine drw (by decide +kernel) ?_; conv => whnf) | (refine And.intro ?_ ?_; (focus (first | ((repeat (first | exact trivial | ((conv => whnf); refine And.intro (by first | exact .inr ⟨0, _, _, rfl, rfl, rfl⟩ | exact .inr ⟨1, _, _, rfl, rfl, rfl⟩ | exact .inr ⟨2, _, _, rfl, rfl, rfl⟩ | exact .inr ⟨3, _, _, rfl, rfl, rfl⟩ | assumption) ?_))); done) | ((conv => whnf); first | exact ⟨0, 0, _, _, _, rfl, (Nat.zero_add _).symm, rfl, rfl⟩ | exact ⟨1, 0, _, _, _, rfl, (Nat.zero_add _).symm, rfl, rfl⟩ | exact ⟨2, 0, _, _, _, rfl, (Nat.zero_add _).symm, rfl, rfl⟩ | exact ⟨3, 0, _, _, _, rfl, (Nat.zero_add _).symm, rfl, rfl⟩ | exact ⟨0, _, 0, _, _, rfl, rfl, rfl, rfl⟩ | exact ⟨1, _, 0, _, _, rfl, rfl, rfl, rfl⟩ | exact ⟨2, _, 0, _, _, rfl, rfl, rfl, rfl⟩ | exact ⟨3, _, 0, _, _, rfl, rfl, rfl, rfl⟩))); conv => whnf))
      refine ⟨_, hb1.get 0 (by omega), ?_⟩
      (conv => whnf); repeat (first | (refine fun (_ : Nat) (_ : _ ≤ _) (_ : _ = none) => ?_; conv => whnf) | (refine drw (by decide +kernel) ?_; conv => whnf) | (refine And.intro ?_ ?_; (focus (first | ((repeat (first | exact trivial | ((conv => whnf); refine And.intro (by first | exact .inr ⟨0, _, _, rfl, rfl, rfl⟩ | exact .inr ⟨1, _, _, rfl, rfl, rfl⟩ | exact .inr ⟨2, _, _, rfl, rfl, rfl⟩ | exact .inr ⟨3, _, _, rfl, rfl, rfl⟩ | assumption) ?_))); done) | ((conv => whnf); first | exact ⟨0, 0, _, _, _, rfl, (Nat.zero_add _).symm, rfl, rfl⟩ | exact ⟨1, 0, _, _, _, rfl, (Nat.zero_add _).symm, rfl, rfl⟩ | exact ⟨2, 0, _, _, _, rfl, (Nat.zero_add _).symm, rfl, rfl⟩ | exact ⟨3, 0, _, _, _, rfl, (Nat.zero_add _).symm, rfl, rfl⟩ | exact ⟨0, _, 0, _, _, rfl, rfl, rfl, rfl⟩ | exact ⟨1, _, 0, _, _, rfl, rfl, rfl, rfl⟩ | exact ⟨2, _, 0, _, _, rfl, rfl, rfl, rfl⟩ | exact ⟨3, _, 0, _, _, rfl, rfl, rfl, rfl⟩))); conv => whnf))
      refine ⟨⟨by decide, by decide, by omega⟩, ?_⟩
      (conv => whnf); repeat (first | (refine fun (_ : Nat) (_ : _ ≤ _) (_ : _ = none) => ?_; conv => whnf) | (refine drw (by decide +kernel) ?_; conv => whnf) | (refine And.intro ?_ ?_; (focus (first | ((repeat (first | exact trivial | ((conv => whnf); refine And.intro (by first | exact .inr ⟨0, _, _, rfl, rfl, rfl⟩ | exact .inr ⟨1, _, _, rfl, rfl, rfl⟩ | exact .inr ⟨2, _, _, rfl, rfl, rfl⟩ | exact .inr ⟨3, _, _, rfl, rfl, rfl⟩ | assumption) ?_))); done) | ((conv => whnf); first | exact ⟨0, 0, _, _, _, rfl, (Nat.zero_add _).symm, rfl, rfl⟩ | exact ⟨1, 0, _, _, _, rfl, (Nat.zero_add _).symm, rfl, rfl⟩ | exact ⟨2, 0, _, _, _, rfl, (Nat.zero_add _).symm, rfl, rfl⟩ | exact ⟨3, 0, _, _, _, rfl, (Nat.zero_add _).symm, rfl, rfl⟩ | exact ⟨0, _, 0, _, _, rfl, rfl, rfl, rfl⟩ | exact ⟨1, _, 0, _, _, rfl, rfl, rfl, rfl⟩ | exact ⟨2, _, 0, _, _, rfl, rfl, rfl, rfl⟩ | exact ⟨3, _, 0, _, _, rfl, rfl, rfl, rfl⟩))); conv => whnf))
      refine ⟨?_, ?_⟩
      · conv => whnf
        intro r2 H2 hB2 hN2 hE2
        have hbx := hb1.mono hE2.old
        have kn2 := KnownC.c (hbx.get 0 (by omega)) []
        have ho2 : IO_ H2 r2 nZ.is := ⟨_, hE2.new⟩
        have n12 : r1 ≠ r2 := fun e => by subst e; rw [hE1.new] at hN2; cases hN2
        (conv => whnf); repeat (first | (refine fun (_ : Nat) (_ : _ ≤ _) (_ : _ = none) => ?_; conv => whnf) | (refine drw (by decide +kernel) ?_; conv => whnf) | (refine And.intro ?_ ?_; (focus (first | ((repeat (first | exact trivial | ((conv => whnf); refine And.intro (by first | exact .inr ⟨0, _, _, rfl, rfl, rfl⟩ | exact .inr ⟨1, _, _, rfl, rfl, rfl⟩ | exact .inr ⟨2, _, _, rfl, rfl, rfl⟩ | exact .inr ⟨3, _, _, rfl, rfl, rfl⟩ | assumption) ?_))); done) | ((conv => whnf); first | exact ⟨0, 0, _, _, _, rfl, (Nat.zero_add _).symm, rfl, rfl⟩ | exact ⟨1, 0, _, _, _, rfl, (Nat.zero_add _).symm, rfl, rfl⟩ | exact ⟨2, 0, _, _, _, rfl, (Nat.zero_add _).symm, rfl, rfl⟩ | exact ⟨3, 0, _, _, _, rfl, (Nat.zero_add _).symm, rfl, rfl⟩ | exact ⟨0, _, 0, _, _, rfl, rfl, rfl, rfl⟩ | exact ⟨1, _, 0, _, _, rfl, rfl, rfl, rfl⟩ | exact ⟨2, _, 0, _, _, rfl, rfl, rfl, rfl⟩ | exact ⟨3, _, 0, _, _, rfl, rfl, rfl, rfl⟩))); conv => whnf))
        (refine VCall.pure_ (by kernel_rfl) (fun w hs => nget_ok w hs (hbx.sub 2 4 (by omega) (by omega)) (by omega)) ?_); (conv => whnf); repeat (first | (refine fun (_ : Nat) (_ : _ ≤ _) (_ : _ = none) => ?_; conv => whnf) | (refine drw (by decide +kernel) ?_; conv => whnf) | (refine And.intro ?_ ?_; (focus (first | ((repeat (first | exact trivial | ((conv => whnf); refine And.intro (by first | exact .inr ⟨0, _, _, rfl, rfl, rfl⟩ | exact .inr ⟨1, _, _, rfl, rfl, rfl⟩ | exact .inr ⟨2, _, _, rfl, rfl, rfl⟩ | exact .inr ⟨3, _, _, rfl, rfl, rfl⟩ | assumption) ?_))); done) | ((conv => whnf); first | exact ⟨0, 0, _, _, _, rfl, (Nat.zero_add _).symm, rfl, rfl⟩ | exact ⟨1, 0, _, _, _, rfl, (Nat.zero_add _).symm, rfl, rfl⟩ | exact ⟨2, 0, _, _, _, rfl, (Nat.zero_add _).symm, rfl, rfl⟩ | exact ⟨3, 0, _, _, _, rfl, (Nat.zero_add _).symm, rfl, rfl⟩ | exact ⟨0, _, 0, _, _, rfl, rfl, rfl, rfl⟩ | exact ⟨1, _, 0, _, _, rfl, rfl, rfl, rfl⟩ | exact ⟨2, _, 0, _, _, rfl, rfl, rfl, rfl⟩ | exact ⟨3, _, 0, _, _, rfl, rfl, rfl, rfl⟩))); conv => whnf))
        refine ⟨⟨by decide, by decide, by omega⟩, ?_⟩
        (conv => whnf); repeat (first | (refine fun (_ : Nat) (_ : _ ≤ _) (_ : _ = none) => ?_; conv => whnf) | (refine drw (by decide +kernel) ?_; conv => whnf) | (refine And.intro ?_ ?_; (focus (first | ((repeat (first | exact trivial | ((conv => whnf); refine And.intro (by first | exact .inr ⟨0, _, _, rfl, rfl, rfl⟩ | exact .inr ⟨1, _, _, rfl, rfl, rfl⟩ | exact .inr ⟨2, _, _, rfl, rfl, rfl⟩ | exact .inr ⟨3, _, _, rfl, rfl, rfl⟩ | assumption) ?_))); done) | ((conv => whnf); first | exact ⟨0, 0, _, _, _, rfl, (Nat.zero_add _).symm, rfl, rfl⟩ | exact ⟨1, 0, _, _, _, rfl, (Nat.zero_add _).symm, rfl, rfl⟩ | exact ⟨2, 0, _, _, _, rfl, (Nat.zero_add _).symm, rfl, rfl⟩ | exact ⟨3, 0, _, _, _, rfl, (Nat.zero_add _).symm, rfl, rfl⟩ | exact ⟨0, _, 0, _, _, rfl, rfl, rfl, rfl⟩ | exact ⟨1, _, 0, _, _, rfl, rfl, rfl, rfl⟩ | exact ⟨2, _, 0, _, _, rfl, rfl, rfl, rfl⟩ | exact ⟨3, _, 0, _, _, rfl, rfl, rfl, rfl⟩))); conv => whnf))
        (refine VCall.pure_ (by kernel_rfl) (fun w hs => nget_ok w hs (hbx.sub 4 8 (by omega) (by omega)) (by omega)) ?_); (conv => whnf); repeat (first | (refine fun (_ : Nat) (_ : _ ≤ _) (_ : _ = none) => ?_; conv => whnf) | (refine drw (by decide +kernel) ?_; conv => whnf) | (refine And.intro ?_ ?_; (focus (first | ((repeat (first | exact trivial | ((conv => whnf); refine And.intro (by first | exact .inr ⟨0, _, _, rfl, rfl, rfl⟩ | exact .inr ⟨1, _, _, rfl, rfl, rfl⟩ | exact .inr ⟨2, _, _, rfl, rfl, rfl⟩ | exact .inr ⟨3, _, _, rfl, rfl, rfl⟩ | assumption) ?_))); done) | ((conv => whnf); first | exact ⟨0, 0, _, _, _, rfl, (Nat.zero_add _).symm, rfl, rfl⟩ | exact ⟨1, 0, _, _, _, rfl, (Nat.zero_add _).symm, rfl, rfl⟩ | exact ⟨2, 0, _, _, _, rfl, (Nat.zero_add _).symm, rfl, rfl⟩ | exact ⟨3, 0, _, _, _, rfl, (Nat.zero_add _).symm, rfl, rfl⟩ | exact ⟨0, _, 0, _, _, rfl, rfl, rfl, rfl⟩ | exact ⟨1, _, 0, _, _, rfl, rfl, rfl, rfl⟩ | exact ⟨2, _, 0, _, _, rfl, rfl, rfl, rfl⟩ | exact ⟨3, _, 0, _, _, rfl, rfl, rfl, rfl⟩))); conv => whnf))
        refine ⟨⟨by decide, by decide, by omega⟩, ?_⟩
        (conv => whnf); repeat (first | (refine fun (_ : Nat) (_ : _ ≤ _) (_ : _ = none) => ?_; conv => whnf) | (refine drw (by decide +kernel) ?_; conv => whnf) | (refine And.intro ?_ ?_; (focus (first | ((repeat (first | exact trivial | ((conv => whnf); refine And.intro (by first | exact .inr ⟨0, _, _, rfl, rfl, rfl⟩ | exact .inr ⟨1, _, _, rfl, rfl, rfl⟩ | exact .inr ⟨2, _, _, rfl, rfl, rfl⟩ | exact .inr ⟨3, _, _, rfl, rfl, rfl⟩ | assumption) ?_))); done) | ((conv => whnf); first | exact ⟨0, 0, _, _, _, rfl, (Nat.zero_add _).symm, rfl, rfl⟩ | exact ⟨1, 0, _, _, _, rfl, (Nat.zero_add _).symm, rfl, rfl⟩ | exact ⟨2, 0, _, _, _, rfl, (Nat.zero_add _).symm, rfl, rfl⟩ | exact ⟨3, 0, _, _, _, rfl, (Nat.zero_add _).symm, rfl, rfl⟩ | exact ⟨0, _, 0, _, _, rfl, rfl, rfl, rfl⟩ | exact ⟨1, _, 0, _, _, rfl, rfl, rfl, rfl⟩ | exact ⟨2, _, 0, _, _, rfl, rfl, rfl, rfl⟩ | exact ⟨3, _, 0, _, _, rfl, rfl, rfl, rfl⟩))); conv => whnf))
        (refine VCall.pure_ (by kernel_rfl) (fun w hs => nget_ok w hs (hbx.sub 8 16 (by omega) (by omega)) (by omega)) ?_); (conv => whnf); repeat (first | (refine fun (_ : Nat) (_ : _ ≤ _) (_ : _ = none) => ?_; conv => whnf) | (refine drw (by decide +kernel) ?_; conv => whnf) | (refine And.intro ?_ ?_; (focus (first | ((repeat (first | exact trivial | ((conv => whnf); refine And.intro (by first | exact .inr ⟨0, _, _, rfl, rfl, rfl⟩ | exact .inr ⟨1, _, _, rfl, rfl, rfl⟩ | exact .inr ⟨2, _, _, rfl, rfl, rfl⟩ | exact .inr ⟨3, _, _, rfl, rfl, rfl⟩ | assumption) ?_))); done) | ((conv => whnf); first | exact ⟨0, 0, _, _, _, rfl, (Nat.zero_add _).symm, rfl, rfl⟩ | exact ⟨1, 0, _, _, _, rfl, (Nat.zero_add _).symm, rfl, rfl⟩ | exact ⟨2, 0, _, _, _, rfl, (Nat.zero_add _).symm, rfl, rfl⟩ | exact ⟨3, 0, _, _, _, rfl, (Nat.zero_add _).symm, rfl, rfl⟩ | exact ⟨0, _, 0, _, _, rfl, rfl, rfl, rfl⟩ | exact ⟨1, _, 0, _, _, rfl, rfl, rfl, rfl⟩ | exact ⟨2, _, 0, _, _, rfl, rfl, rfl, rfl⟩ | exact ⟨3, _, 0, _, _, rfl, rfl, rfl, rfl⟩))); conv => whnf))
        refine ⟨rfl, IO_.store ho2 [IntKind.i64.wrap ((bs.getD 0 0).toNat : Int), IntKind.i64.wrap ((leN ((bs.drop 2).take 2) : Nat) : Int), IntKind.i64.wrap ((leN ((bs.drop 4).take 4) : Nat) : Int), IntKind.i64.wrap ((leN ((bs.drop 8).take 8) : Nat) : Int), 0, 0, 0, 0, 0, 0, 0, 0] 0 (Nat.le_of_ble_eq_true rfl) (.inr hB2) ?_⟩
        intro H3 hk3 ho3
        rw [e0, e2, e4] at ho3
        have hsub3 : Sub H1 H3 := fun i o hi => hk3 i o (fun e => by subst e; rw [hi] at hN2; cases hN2) (hE2.old _ _ hi)
        have kn3 := KnownC.c ((hb1.mono hsub3).get 0 (by omega)) []
        (conv => whnf); repeat (first | (refine fun (_ : Nat) (_ : _ ≤ _) (_ : _ = none) => ?_; conv => whnf) | (refine drw (by decide +kernel) ?_; conv => whnf) | (refine And.intro ?_ ?_; (focus (first | ((repeat (first | exact trivial | ((conv => whnf); refine And.intro (by first | exact .inr ⟨0, _, _, rfl, rfl, rfl⟩ | exact .inr ⟨1, _, _, rfl, rfl, rfl⟩ | exact .inr ⟨2, _, _, rfl, rfl, rfl⟩ | exact .inr ⟨3, _, _, rfl, rfl, rfl⟩ | assumption) ?_))); done) | ((conv => whnf); first | exact ⟨0, 0, _, _, _, rfl, (Nat.zero_add _).symm, rfl, rfl⟩ | exact ⟨1, 0, _, _, _, rfl, (Nat.zero_add _).symm, rfl, rfl⟩ | exact ⟨2, 0, _, _, _, rfl, (Nat.zero_add _).symm, rfl, rfl⟩ | exact ⟨3, 0, _, _, _, rfl, (Nat.zero_add _).symm, rfl, rfl⟩ | exact ⟨0, _, 0, _, _, rfl, rfl, rfl, rfl⟩ | exact ⟨1, _, 0, _, _, rfl, rfl, rfl, rfl⟩ | exact ⟨2, _, 0, _, _, rfl, rfl, rfl, rfl⟩ | exact ⟨3, _, 0, _, _, rfl, rfl, rfl, rfl⟩))); conv => whnf))
        exact ⟨(r2, H3), ⟨hB2, hE1.none hN2, n12, fun i o hi => hsub3 i o (hE1.old i o hi), ho1.mono (fun o ho => hsub3 _ _ ho), ho3⟩, ⟨rfl, rfl, rfl, rfl, trivial⟩, ⟨[], rfl⟩, rfl⟩
      (refine VCall.pure_ (by kernel_rfl) (fun w hs => nget_ok w hs (hbx.sub 2 4 (by omega) (by omega)) (by omega)) ?_); (conv => whnf); repeat (first | (refine fun (_ : Nat) (_ : _ ≤ _) (_ : _ = none) => ?_; conv => whnf) | (refine drw (by decide +kernel) ?_; conv => whnf) | (refine And.intro ?_ ?_; (focus (first | ((repeat (first | exact trivial | ((conv => whnf); refine And.intro (by first | exact .inr ⟨0, _, _, rfl, rfl, rfl⟩ | exact .inr ⟨1, _, _, rfl, rfl, rfl⟩ | exact .inr ⟨2, _, _, rfl, rfl, rfl⟩ | exact .inr ⟨3, _, _, rfl, rfl, rfl⟩ | assumption) ?_))); done) | ((conv => whnf); first | exact ⟨0, 0, _, _, _, rfl, (Nat.zero_add _).symm, rfl, rfl⟩ | exact ⟨1, 0, _, _, _, rfl, (Nat.zero_add _).symm, rfl, rfl⟩ | exact ⟨2, 0, _, _, _, rfl, (Nat.zero_add _).symm, rfl, rfl⟩ | exact ⟨3, 0, _, _, _, rfl, (Nat.zero_add _).symm, rfl, rfl⟩ | exact ⟨0, _, 0, _, _, rfl, rfl, rfl, rfl⟩ | exact ⟨1, _, 0, _, _, rfl, rfl, rfl, rfl⟩ | exact ⟨2, _, 0, _, _, rfl, rfl, rfl, rfl⟩ | exact ⟨3, _, 0, _, _, rfl, rfl, rfl, rfl⟩))); conv => whnf))
      refine ⟨⟨by decide, by decide, by omega⟩, ?_⟩
      (conv => whnf); repeat (first | (refine fun (_ : Nat) (_ : _ ≤ _) (_ : _ = none) => ?_; conv => whnf) | (refine drw (by decide +kernel) ?_; conv => whnf) | (refine And.intro ?_ ?_; (focus (first | ((repeat (first | exact trivial | ((conv => whnf); refine And.intro (by first | exact .inr ⟨0, _, _, rfl, rfl, rfl⟩ | exact .inr ⟨1, _, _, rfl, rfl, rfl⟩ | exact .inr ⟨2, _, _, rfl, rfl, rfl⟩ | exact .inr ⟨3, _, _, rfl, rfl, rfl⟩ | assumption) ?_))); done) | ((conv => whnf); first | exact ⟨0, 0, _, _, _, rfl, (Nat.zero_add _).symm, rfl, rfl⟩ | exact ⟨1, 0, _, _, _, rfl, (Nat.zero_add _).symm, rfl, rfl⟩ | exact ⟨2, 0, _, _, _, rfl, (Nat.zero_add _).symm, rfl, rfl⟩ | exact ⟨3, 0, _, _, _, rfl, (Nat.zero_add _).symm, rfl, rfl⟩ | exact ⟨0, _, 0, _, _, rfl, rfl, rfl, rfl⟩ | exact ⟨1, _, 0, _, _, rfl, rfl, rfl, rfl⟩ | exact ⟨2, _, 0, _, _, rfl, rfl, rfl, rfl⟩ | exact ⟨3, _, 0, _, _, rfl, rfl, rfl, rfl⟩))); conv => whnf))
      refine ⟨?_, ?_⟩
      · conv => whnf
        intro r2 H2 hB2 hN2 hE2
        have hbx := hb1.mono hE2.old
        have kn2 := KnownC.c (hbx.get 0 (by omega)) []
        have ho2 : IO_ H2 r2 nZ.is := ⟨_, hE2.new⟩
        have n12 : r1 ≠ r2 := fun e => by subst e; rw [hE1.new] at hN2; cases hN2
        (conv => whnf); repeat (first | (refine fun (_ : Nat) (_ : _ ≤ _) (_ : _ = none) => ?_; conv => whnf) | (refine drw (by decide +kernel) ?_; conv => whnf) | (refine And.intro ?_ ?_; (focus (first | ((repeat (first | exact trivial | ((conv => whnf); refine And.intro (by first | exact .inr ⟨0, _, _, rfl, rfl, rfl⟩ | exact .inr ⟨1, _, _, rfl, rfl, rfl⟩ | exact .inr ⟨2, _, _, rfl, rfl, rfl⟩ | exact .inr ⟨3, _, _, rfl, rfl, rfl⟩ | assumption) ?_))); done) | ((conv => whnf); first | exact ⟨0, 0, _, _, _, rfl, (Nat.zero_add _).symm, rfl, rfl⟩ | exact ⟨1, 0, _, _, _, rfl, (Nat.zero_add _).symm, rfl, rfl⟩ | exact ⟨2, 0, _, _, _, rfl, (Nat.zero_add _).symm, rfl, rfl⟩ | exact ⟨3, 0, _, _, _, rfl, (Nat.zero_add _).symm, rfl, rfl⟩ | exact ⟨0, _, 0, _, _, rfl, rfl, rfl, rfl⟩ | exact ⟨1, _, 0, _, _, rfl, rfl, rfl, rfl⟩ | exact ⟨2, _, 0, _, _, rfl, rfl, rfl, rfl⟩ | exact ⟨3, _, 0, _, _, rfl, rfl, rfl, rfl⟩))); conv => whnf))
        (refine VCall.pure_ (by kernel_rfl) (fun w hs => nget_ok w hs (hbx.sub 4 8 (by omega) (by omega)) (by omega)) ?_); (conv => whnf); repeat (first | (refine fun (_ : Nat) (_ : _ ≤ _) (_ : _ = none) => ?_; conv => whnf) | (refine drw (by decide +kernel) ?_; conv => whnf) | (refine And.intro ?_ ?_; (focus (first | ((repeat (first | exact trivial | ((conv => whnf); refine And.intro (by first | exact .inr ⟨0, _, _, rfl, rfl, rfl⟩ | exact .inr ⟨1, _, _, rfl, rfl, rfl⟩ | exact .inr ⟨2, _, _, rfl, rfl, rfl⟩ | exact .inr ⟨3, _, _, rfl, rfl, rfl⟩ | assumption) ?_))); done) | ((conv => whnf); first | exact ⟨0, 0, _, _, _, rfl, (Nat.zero_add _).symm, rfl, rfl⟩ | exact ⟨1, 0, _, _, _, rfl, (Nat.zero_add _).symm, rfl, rfl⟩ | exact ⟨2, 0, _, _, _, rfl, (Nat.zero_add _).symm, rfl, rfl⟩ | exact ⟨3, 0, _, _, _, rfl, (Nat.zero_add _).symm, rfl, rfl⟩ | exact ⟨0, _, 0, _, _, rfl, rfl, rfl, rfl⟩ | exact ⟨1, _, 0, _, _, rfl, rfl, rfl, rfl⟩ | exact ⟨2, _, 0, _, _, rfl, rfl, rfl, rfl⟩ | exact ⟨3, _, 0, _, _, rfl, rfl, rfl, rfl⟩))); conv => whnf))
        refine ⟨⟨by decide, by decide, by omega⟩, ?_⟩
        (conv => whnf); repeat (first | (refine fun (_ : Nat) (_ : _ ≤ _) (_ : _ = none) => ?_; conv => whnf) | (refine drw (by decide +kernel) ?_; conv => whnf) | (refine And.intro ?_ ?_; (focus (first | ((repeat (first | exact trivial | ((conv => whnf); refine And.intro (by first | exact .inr ⟨0, _, _, rfl, rfl, rfl⟩ | exact .inr ⟨1, _, _, rfl, rfl, rfl⟩ | exact .inr ⟨2, _, _, rfl, rfl, rfl⟩ | exact .inr ⟨3, _, _, rfl, rfl, rfl⟩ | assumption) ?_))); done) | ((conv => whnf); first | exact ⟨0, 0, _, _, _, rfl, (Nat.zero_add _).symm, rfl, rfl⟩ | exact ⟨1, 0, _, _, _, rfl, (Nat.zero_add _).symm, rfl, rfl⟩ | exact ⟨2, 0, _, _, _, rfl, (Nat.zero_add _).symm, rfl, rfl⟩ | exact ⟨3, 0, _, _, _, rfl, (Nat.zero_add _).symm, rfl, rfl⟩ | exact ⟨0, _, 0, _, _, rfl, rfl, rfl, rfl⟩ | exact ⟨1, _, 0, _, _, rfl, rfl, rfl, rfl⟩ | exact ⟨2, _, 0, _, _, rfl, rfl, rfl, rfl⟩ | exact ⟨3, _, 0, _, _, rfl, rfl, rfl, rfl⟩))); conv => whnf))
        (refine VCall.pure_ (by kernel_rfl) (fun w hs => nget_ok w hs (hbx.sub 8 16 (by omega) (by omega)) (by omega)) ?_); (conv => whnf); repeat (first | (refine fun (_ : Nat) (_ : _ ≤ _) (_ : _ = none) => ?_; conv => whnf) | (refine drw (by decide +kernel) ?_; conv => whnf) | (refine And.intro ?_ ?_; (focus (first | ((repeat (first | exact trivial | ((conv => whnf); refine And.intro (by first | exact .inr ⟨0, _, _, rfl, rfl, rfl⟩ | exact .inr ⟨1, _, _, rfl, rfl, rfl⟩ | exact .inr ⟨2, _, _, rfl, rfl, rfl⟩ | exact .inr ⟨3, _, _, rfl, rfl, rfl⟩ | assumption) ?_))); done) | ((conv => whnf); first | exact ⟨0, 0, _, _, _, rfl, (Nat.zero_add _).symm, rfl, rfl⟩ | exact ⟨1, 0, _, _, _, rfl, (Nat.zero_add _).symm, rfl, rfl⟩ | exact ⟨2, 0, _, _, _, rfl, (Nat.zero_add _).symm, rfl, rfl⟩ | exact ⟨3, 0, _, _, _, rfl, (Nat.zero_add _).symm, rfl, rfl⟩ | exact ⟨0, _, 0, _, _, rfl, rfl, rfl, rfl⟩ | exact ⟨1, _, 0, _, _, rfl, rfl, rfl, rfl⟩ | exact ⟨2, _, 0, _, _, rfl, rfl, rfl, rfl⟩ | exact ⟨3, _, 0, _, _, rfl, rfl, rfl, rfl⟩))); conv => whnf))
        refine ⟨rfl, IO_.store ho2 [IntKind.i64.wrap ((bs.getD 0 0).toNat : Int), IntKind.i64.wrap ((leN ((bs.drop 2).take 2) : Nat) : Int), IntKind.i64.wrap ((leN ((bs.drop 4).take 4) : Nat) : Int), IntKind.i64.wrap ((leN ((bs.drop 8).take 8) : Nat) : Int), 0, 0, 0, 0, 0, 0, 0, 0] 0 (Nat.le_of_ble_eq_true rfl) (.inr hB2) ?_⟩
        intro H3 hk3 ho3
        rw [e0, e2, e4] at ho3
        have hsub3 : Sub H1 H3 := fun i o hi => hk3 i o (fun e => by subst e; rw [hi] at hN2; cases hN2) (hE2.old _ _ hi)
        have kn3 := KnownC.c ((hb1.mono hsub3).get 0 (by omega)) []
        (conv => whnf); repeat (first | (refine fun (_ : Nat) (_ : _ ≤ _) (_ : _ = none) => ?_; conv => whnf) | (refine drw (by decide +kernel) ?_; conv => whnf) | (refine And.intro ?_ ?_; (focus (first | ((repeat (first | exact trivial | ((conv => whnf); refine And.intro (by first | exact .inr ⟨0, _, _, rfl, rfl, rfl⟩ | exact .inr ⟨1, _, _, rfl, rfl, rfl⟩ | exact .inr ⟨2, _, _, rfl, rfl, rfl⟩ | exact .inr ⟨3, _, _, rfl, rfl, rfl⟩ | assumption) ?_))); done) | ((conv => whnf); first | exact ⟨0, 0, _, _, _, rfl, (Nat.zero_add _).symm, rfl, rfl⟩ | exact ⟨1, 0, _, _, _, rfl, (Nat.zero_add _).symm, rfl, rfl⟩ | exact ⟨2, 0, _, _, _, rfl, (Nat.zero_add _).symm, rfl, rfl⟩ | exact ⟨3, 0, _, _, _, rfl, (Nat.zero_add _).symm, rfl, rfl⟩ | exact ⟨0, _, 0, _, _, rfl, rfl, rfl, rfl⟩ | exact ⟨1, _, 0, _, _, rfl, rfl, rfl, rfl⟩ | exact ⟨2, _, 0, _, _, rfl, rfl, rfl, rfl⟩ | exact ⟨3, _, 0, _, _, rfl, rfl, rfl, rfl⟩))); conv => whnf))
        exact ⟨(r2, H3), ⟨hB2, hE1.none hN2, n12, fun i o hi => hsub3 i o (hE1.old i o hi), ho1.mono (fun o ho => hsub3 _ _ ho), ho3⟩, ⟨rfl, rfl, rfl, rfl, trivial⟩, ⟨[], rfl⟩, rfl⟩
      (refine VCall.pure_ (by kernel_rfl) (fun w hs => nget_ok w hs (hbx.sub 4 8 (by omega) (by omega)) (by omega)) ?_); (conv => whnf); repeat (first | (refine fun (_ : Nat) (_ : _ ≤ _) (_ : _ = none) => ?_; conv => whnf) | (refine drw (by decide +kernel) ?_; conv => whnf) | (refine And.intro ?_ ?_; (focus (first | ((repeat (first | exact trivial | ((conv => whnf); refine And.intro (by first | exact .inr ⟨0, _, _, rfl, rfl, rfl⟩ | exact .inr ⟨1, _, _, rfl, rfl, rfl⟩ | exact .inr ⟨2, _, _, rfl, rfl, rfl⟩ | exact .inr ⟨3, _, _, rfl, rfl, rfl⟩ | assumption) ?_))); done) | ((conv => whnf); first | exact ⟨0, 0, _, _, _, rfl, (Nat.zero_add _).symm, rfl, rfl⟩ | exact ⟨1, 0, _, _, _, rfl, (Nat.zero_add _).symm, rfl, rfl⟩ | exact ⟨2, 0, _, _, _, rfl, (Nat.zero_add _).symm, rfl, rfl⟩ | exact ⟨3, 0, _, _, _, rfl, (Nat.zero_add _).symm, rfl, rfl⟩ | exact ⟨0, _, 0, _, _, rfl, rfl, rfl, rfl⟩ | exact ⟨1, _, 0, _, _, rfl, rfl, rfl, rfl⟩ | exact ⟨2, _, 0, _, _, rfl, rfl, rfl, rfl⟩ | exact ⟨3, _, 0, _, _, rfl, rfl, rfl, rfl⟩))); conv => whnf))
      refine ⟨⟨by decide, by decide, by omega⟩, ?_⟩
      (conv => whnf); repeat (first | (refine fun (_ : Nat) (_ : _ ≤ _) (_ : _ = none) => ?_; conv => whnf) | (refine drw (by decide +kernel) ?_; conv => whnf) | (refine And.intro ?_ ?_; (focus (first | ((repeat (first | exact trivial | ((conv => whnf); refine And.intro (by first | exact .inr ⟨0, _, _, rfl, rfl, rfl⟩ | exact .inr ⟨1, _, _, rfl, rfl, rfl⟩ | exact .inr ⟨2, _, _, rfl, rfl, rfl⟩ | exact .inr ⟨3, _, _, rfl, rfl, rfl⟩ | assumption) ?_))); done) | ((conv => whnf); first | exact ⟨0, 0, _, _, _, rfl, (Nat.zero_add _).symm, rfl, rfl⟩ | exact ⟨1, 0, _, _, _, rfl, (Nat.zero_add _).symm, rfl, rfl⟩ | exact ⟨2, 0, _, _, _, rfl, (Nat.zero_add _).symm, rfl, rfl⟩ | exact ⟨3, 0, _, _, _, rfl, (Nat.zero_add _).symm, rfl, rfl⟩ | exact ⟨0, _, 0, _, _, rfl, rfl, rfl, rfl⟩ | exact ⟨1, _, 0, _, _, rfl, rfl, rfl, rfl⟩ | exact ⟨2, _, 0, _, _, rfl, rfl, rfl, rfl⟩ | exact ⟨3, _, 0, _, _, rfl, rfl, rfl, rfl⟩))); conv => whnf))
      refine ⟨?_, ?_⟩
      · conv => whnf
        intro r2 H2 hB2 hN2 hE2
        have hbx := hb1.mono hE2.old
        have kn2 := KnownC.c (hbx.get 0 (by omega)) []
        have ho2 : IO_ H2 r2 nZ.is := ⟨_, hE2.new⟩
        have n12 : r1 ≠ r2 := fun e => by subst e; rw [hE1.new] at hN2; cases hN2
        (conv => whnf); repeat (first | (refine fun (_ : Nat) (_ : _ ≤ _) (_ : _ = none) => ?_; conv => whnf) | (refine drw (by decide +kernel) ?_; conv => whnf) | (refine And.intro ?_ ?_; (focus (first | ((repeat (first | exact trivial | ((conv => whnf); refine And.intro (by first | exact .inr ⟨0, _, _, rfl, rfl, rfl⟩ | exact .inr ⟨1, _, _, rfl, rfl, rfl⟩ | exact .inr ⟨2, _, _, rfl, rfl, rfl⟩ | exact .inr ⟨3, _, _, rfl, rfl, rfl⟩ | assumption) ?_))); done) | ((conv => whnf); first | exact ⟨0, 0, _, _, _, rfl, (Nat.zero_add _).symm, rfl, rfl⟩ | exact ⟨1, 0, _, _, _, rfl, (Nat.zero_add _).symm, rfl, rfl⟩ | exact ⟨2, 0, _, _, _, rfl, (Nat.zero_add _).symm, rfl, rfl⟩ | exact ⟨3, 0, _, _, _, rfl, (Nat.zero_add _).symm, rfl, rfl⟩ | exact ⟨0, _, 0, _, _, rfl, rfl, rfl, rfl⟩ | exact ⟨1, _, 0, _, _, rfl, rfl, rfl, rfl⟩ | exact ⟨2, _, 0, _, _, rfl, rfl, rfl, rfl⟩ | exact ⟨3, _, 0, _, _, rfl, rfl, rfl, rfl⟩))); conv => whnf))
        (refine VCall.pure_ (by kernel_rfl) (fun w hs => nget_ok w hs (hbx.sub 8 16 (by omega) (by omega)) (by omega)) ?_); (conv => whnf); repeat (first | (refine fun (_ : Nat) (_ : _ ≤ _) (_ : _ = none) => ?_; conv => whnf) | (refine drw (by decide +kernel) ?_; conv => whnf) | (refine And.intro ?_ ?_; (focus (first | ((repeat (first | exact trivial | ((conv => whnf); refine And.intro (by first | exact .inr ⟨0, _, _, rfl, rfl, rfl⟩ | exact .inr ⟨1, _, _, rfl, rfl, rfl⟩ | exact .inr ⟨2, _, _, rfl, rfl, rfl⟩ | exact .inr ⟨3, _, _, rfl, rfl, rfl⟩ | assumption) ?_))); done) | ((conv => whnf); first | exact ⟨0, 0, _, _, _, rfl, (Nat.zero_add _).symm, rfl, rfl⟩ | exact ⟨1, 0, _, _, _, rfl, (Nat.zero_add _).symm, rfl, rfl⟩ | exact ⟨2, 0, _, _, _, rfl, (Nat.zero_add _).symm, rfl, rfl⟩ | exact ⟨3, 0, _, _, _, rfl, (Nat.zero_add _).symm, rfl, rfl⟩ | exact ⟨0, _, 0, _, _, rfl, rfl, rfl, rfl⟩ | exact ⟨1, _, 0, _, _, rfl, rfl, rfl, rfl⟩ | exact ⟨2, _, 0, _, _, rfl, rfl, rfl, rfl⟩ | exact ⟨3, _, 0, _, _, rfl, rfl, rfl, rfl⟩))); conv => whnf))
        refine ⟨rfl, IO_.store ho2 [IntKind.i64.wrap ((bs.getD 0 0).toNat : Int), IntKind.i64.wrap ((leN ((bs.drop 2).take 2) : Nat) : Int), IntKind.i64.wrap ((leN ((bs.drop 4).take 4) : Nat) : Int), IntKind.i64.wrap ((leN ((bs.drop 8).take 8) : Nat) : Int), 0, 0, 0, 0, 0, 0, 0, 0] 0 (Nat.le_of_ble_eq_true rfl) (.inr hB2) ?_⟩
        intro H3 hk3 ho3
        rw [e0, e2, e4] at ho3
        have hsub3 : Sub H1 H3 := fun i o hi => hk3 i o (fun e => by subst e; rw [hi] at hN2; cases hN2) (hE2.old _ _ hi)
        have kn3 := KnownC.c ((hb1.mono hsub3).get 0 (by omega)) []
        (conv => whnf); repeat (first | (refine fun (_ : Nat) (_ : _ ≤ _) (_ : _ = none) => ?_; conv => whnf) | (refine drw (by decide +kernel) ?_; conv => whnf) | (refine And.intro ?_ ?_; (focus (first | ((repeat (first | exact trivial | ((conv => whnf); refine And.intro (by first | exact .inr ⟨0, _, _, rfl, rfl, rfl⟩ | exact .inr ⟨1, _, _, rfl, rfl, rfl⟩ | exact .inr ⟨2, _, _, rfl, rfl, rfl⟩ | exact .inr ⟨3, _, _, rfl, rfl, rfl⟩ | assumption) ?_))); done) | ((conv => whnf); first | exact ⟨0, 0, _, _, _, rfl, (Nat.zero_add _).symm, rfl, rfl⟩ | exact ⟨1, 0, _, _, _, rfl, (Nat.zero_add _).symm, rfl, rfl⟩ | exact ⟨2, 0, _, _, _, rfl, (Nat.zero_add _).symm, rfl, rfl⟩ | exact ⟨3, 0, _, _, _, rfl, (Nat.zero_add _).symm, rfl, rfl⟩ | exact ⟨0, _, 0, _, _, rfl, rfl, rfl, rfl⟩ | exact ⟨1, _, 0, _, _, rfl, rfl, rfl, rfl⟩ | exact ⟨2, _, 0, _, _, rfl, rfl, rfl, rfl⟩ | exact ⟨3, _, 0, _, _, rfl, rfl, rfl, rfl⟩))); conv => whnf))
        exact ⟨(r2, H3), ⟨hB2, hE1.none hN2, n12, fun i o hi => hsub3 i o (hE1.old i o hi), ho1.mono (fun o ho => hsub3 _ _ ho), ho3⟩, ⟨rfl, rfl, rfl, rfl, trivial⟩, ⟨[], rfl⟩, rfl⟩
      (refine VCall.pure_ (by kernel_rfl) (fun w hs => nget_ok w hs (hbx.sub 8 16 (by omega) (by omega)) (by omega)) ?_); (conv => whnf); repeat (first | (refine fun (_ : Nat) (_ : _ ≤ _) (_ : _ = none) => ?_; conv => whnf) | (refine drw (by decide +kernel) ?_; conv => whnf) | (refine And.intro ?_ ?_; (focus (first | ((repeat (first | exact trivial | ((conv => whnf); refine And.intro (by first | exact .inr ⟨0, _, _, rfl, rfl, rfl⟩ | exact .inr ⟨1, _, _, rfl, rfl, rfl⟩ | exact .inr ⟨2, _, _, rfl, rfl, rfl⟩ | exact .inr ⟨3, _, _, rfl, rfl, rfl⟩ | assumption) ?_))); done) | ((conv => whnf); first | exact ⟨0, 0, _, _, _, rfl, (Nat.zero_add _).symm, rfl, rfl⟩ | exact ⟨1, 0, _, _, _, rfl, (Nat.zero_add _).symm, rfl, rfl⟩ | exact ⟨2, 0, _, _, _, rfl, (Nat.zero_add _).symm, rfl, rfl⟩ | exact ⟨3, 0, _, _, _, rfl, (Nat.zero_add _).symm, rfl, rfl⟩ | exact ⟨0, _, 0, _, _, rfl, rfl, rfl, rfl⟩ | exact ⟨1, _, 0, _, _, rfl, rfl, rfl, rfl⟩ | exact ⟨2, _, 0, _, _, rfl, rfl, rfl, rfl⟩ | exact ⟨3, _, 0, _, _, rfl, rfl, rfl, rfl⟩))); conv => whnf))
      intro r2 H2 hB2 hN2 hE2
      have hbx := hb1.mono hE2.old
      have kn2 := KnownC.c (hbx.get 0 (by omega)) []
      have ho2 : IO_ H2 r2 nZ.is := ⟨_, hE2.new⟩
      have n12 : r1 ≠ r2 := fun e => by subst e; rw [hE1.new] at hN2; cases hN2
      (conv => whnf); repeat (first | (refine fun (_ : Nat) (_ : _ ≤ _) (_ : _ = none) => ?_; conv => whnf) | (refine drw (by decide +kernel) ?_; conv => whnf) | (refine And.intro ?_ ?_; (focus (first | ((repeat (first | exact trivial | ((conv => whnf); refine And.intro (by first | exact .inr ⟨0, _, _, rfl, rfl, rfl⟩ | exact .inr ⟨1, _, _, rfl, rfl, rfl⟩ | exact .inr ⟨2, _, _, rfl, rfl, rfl⟩ | exact .inr ⟨3, _, _, rfl, rfl, rfl⟩ | assumption) ?_))); done) | ((conv => whnf); first | exact ⟨0, 0, _, _, _, rfl, (Nat.zero_add _).symm, rfl, rfl⟩ | exact ⟨1, 0, _, _, _, rfl, (Nat.zero_add _).symm, rfl, rfl⟩ | exact ⟨2, 0, _, _, _, rfl, (Nat.zero_add _).symm, rfl, rfl⟩ | exact ⟨3, 0, _, _, _, rfl, (Nat.zero_add _).symm, rfl, rfl⟩ | exact ⟨0, _, 0, _, _, rfl, rfl, rfl, rfl⟩ | exact ⟨1, _, 0, _, _, rfl, rfl, rfl, rfl⟩ | exact ⟨2, _, 0, _, _, rfl, rfl, rfl, rfl⟩ | exact ⟨3, _, 0, _, _, rfl, rfl, rfl, rfl⟩))); conv => whnf))
      refine ⟨rfl, IO_.store ho2 [IntKind.i64.wrap ((bs.getD 0 0).toNat : Int), IntKind.i64.wrap ((leN ((bs.drop 2).take 2) : Nat) : Int), IntKind.i64.wrap ((leN ((bs.drop 4).take 4) : Nat) : Int), IntKind.i64.wrap ((leN ((bs.drop 8).take 8) : Nat) : Int), 0, 0, 0, 0, 0, 0, 0, 0] 0 (Nat.le_of_ble_eq_true rfl) (.inr hB2) ?_⟩
      intro H3 hk3 ho3
      rw [e0, e2, e4] at ho3
      have hsub3 : Sub H1 H3 := fun i o hi => hk3 i o (fun e => by subst e; rw [hi] at hN2; cases hN2) (hE2.old _ _ hi)
      have kn3 := KnownC.c ((hb1.mono hsub3).get 0 (by omega)) []
      (conv => whnf); repeat (first | (refine fun (_ : Nat) (_ : _ ≤ _) (_ : _ = none) => ?_; conv => whnf) | (refine drw (by decide +kernel) ?_; conv => whnf) | (refine And.intro ?_ ?_; (focus (first | ((repeat (first | exact trivial | ((conv => whnf); refine And.intro (by first | exact .inr ⟨0, _, _, rfl, rfl, rfl⟩ | exact .inr ⟨1, _, _, rfl, rfl, rfl⟩ | exact .inr ⟨2, _, _, rfl, rfl, rfl⟩ | exact .inr ⟨3, _, _, rfl, rfl, rfl⟩ | assumption) ?_))); done) | ((conv => whnf); first | exact ⟨0, 0, _, _, _, rfl, (Nat.zero_add _).symm, rfl, rfl⟩ | exact ⟨1, 0, _, _, _, rfl, (Nat.zero_add _).symm, rfl, rfl⟩ | exact ⟨2, 0, _, _, _, rfl, (Nat.zero_add _).symm, rfl, rfl⟩ | exact ⟨3, 0, _, _, _, rfl, (Nat.zero_add _).symm, rfl, rfl⟩ | exact ⟨0, _, 0, _, _, rfl, rfl, rfl, rfl⟩ | exact ⟨1, _, 0, _, _, rfl, rfl, rfl, rfl⟩ | exact ⟨2, _, 0, _, _, rfl, rfl, rfl, rfl⟩ | exact ⟨3, _, 0, _, _, rfl, rfl, rfl, rfl⟩))); conv => whnf))
      exact ⟨(r2, H3), ⟨hB2, hE1.none hN2, n12, fun i o hi => hsub3 i o (hE1.old i o hi), ho1.mono (fun o ho => hsub3 _ _ ho), ho3⟩, ⟨rfl, rfl, rfl, rfl, trivial⟩, ⟨[], rfl⟩, rfl⟩
    · rintro x ⟨hx1, hx2, hx3, hx4, hx5, hx6⟩
      (conv => whnf); repeat first | (refine drw (by decide +kernel) ?_; conv => whnf) | (refine fun (_ : Nat) (_ : _ ≤ _) (_ : _ = none) => ?_; conv => whnf)
      intro r3 H2 hB2 hN2 hE2
      have ho3 : IO_ H2 r3 (getL bs 0) := ⟨_, hE2.new⟩
      have n13 : r1 ≠ r3 := fun e => by subst e; obtain ⟨_, h⟩ := hx5; rw [h] at hN2; cases hN2
      have n23 : x.1 ≠ r3 := fun e => by subst e; obtain ⟨_, h⟩ := hx6; rw [h] at hN2; cases hN2
      have hr3 := hx4.none hN2
      (conv => whnf); repeat first | (refine drw (by decide +kernel) ?_; conv => whnf) | (refine fun (_ : Nat) (_ : _ ≤ _) (_ : _ = none) => ?_; conv => whnf)
      refine VLoop.ok (X := Nat × HV) (fun y => [(28, .v (.int .i64 y.1)), (0, .v (yV (some ⟨b, off, none⟩) 64 c)), (2, .v (.pointer (some ⟨r1, 0, none⟩))), (3, .v (iV 0)), (4, .v (.pointer (some ⟨x.1, 0, none⟩))), (5, .v (.pointer (some ⟨r3, 0, none⟩)))]) (fun y => y.2)
        (fun y => y.1 ≤ 8 ∧ Sub H y.2 ∧ IO_ y.2 r1 nZ.is ∧ IO_ y.2 x.1 [(nodeOf bs).k, (nodeOf bs).l, (nodeOf bs).s, (nodeOf bs).d, 0, 0, 0, 0, 0, 0, 0, 0] ∧ IO_ y.2 r3 (getL bs y.1)) (fun y => 8 - y.1) tabH (by kernel_rfl) rfl (fun _ => rfl) (0, H2)
        ⟨Nat.zero_le _, fun i o h => hE2.old _ _ (hx4 i o h), hx5.mono (fun o ho => hE2.old _ _ ho), hx6.mono (fun o ho => hE2.old _ _ ho), ho3⟩ ⟨rfl, rfl, rfl, rfl, rfl, rfl, trivial⟩ rfl ?_
      rintro y ⟨hy1, hy2, hy3, hy4, hy5⟩
      have hby := hb.mono hy2
      (conv => whnf); repeat first | (refine drw (by decide +kernel) ?_; conv => whnf) | (refine fun (_ : Nat) (_ : _ ≤ _) (_ : _ = none) => ?_; conv => whnf)
      refine vif_dec (fun h1 => ?_) (fun h1 => ?_)
      · have nx : IntKind.wrap .i64 ((y.1 : Int) + 1) = ((y.1 + 1 : Nat) : Int) := by rw [wrap64 (by omega)]; rfl
        have e1 : IntKind.i64.wrap (16 + IntKind.i64.wrap ((y.1 : Int) * 2)) = ((16 + 2 * y.1 : Nat) : Int) := by rw [wrap64 (n := (y.1 : Int) * 2) (by omega), wrap64 (by omega)]; omega
        have e2 : IntKind.i64.wrap (16 + IntKind.i64.wrap (IntKind.i64.wrap ((y.1 : Int) + 1) * 2)) = ((18 + 2 * y.1 : Nat) : Int) := by rw [wrap64 (n := (y.1 : Int) + 1) (by omega), wrap64 (n := ((y.1 : Int) + 1) * 2) (by omega), wrap64 (by omega)]; omega
        have hl2 : ((bs.drop (16 + 2 * y.1)).take 2).length = 2 := by simp; omega
        have hv2 := leN_lt ((bs.drop (16 + 2 * y.1)).take 2)
        rw [hl2] at hv2
        have e3 : (18 + 2 * y.1) - (16 + 2 * y.1) = 2 := by omega
        (conv => whnf); repeat first | (refine drw (by decide +kernel) ?_; conv => whnf) | (refine fun (_ : Nat) (_ : _ ≤ _) (_ : _ = none) => ?_; conv => whnf)
        rw [e1, e2]
        refine ⟨⟨by omega, by omega, by omega⟩, ?_⟩
        (conv => whnf); repeat first | (refine drw (by decide +kernel) ?_; conv => whnf) | (refine fun (_ : Nat) (_ : _ ≤ _) (_ : _ = none) => ?_; conv => whnf)
        have hsb := hby.sub (16 + 2 * y.1) (18 + 2 * y.1) (by omega) (by omega)
        (refine VCall.pure_ (by kernel_rfl) (fun w hs => nget_ok w hs hsb (by omega)) ?_); (conv => whnf); repeat first | (refine drw (by decide +kernel) ?_; conv => whnf) | (refine fun (_ : Nat) (_ : _ ≤ _) (_ : _ = none) => ?_; conv => whnf)
        rw [e3]
        refine ⟨⟨by omega, by omega⟩, ?_⟩
        (conv => whnf); repeat first | (refine drw (by decide +kernel) ?_; conv => whnf) | (refine fun (_ : Nat) (_ : _ ≤ _) (_ : _ = none) => ?_; conv => whnf)
        refine ⟨rfl, IO_.put1 hy5 y.1 (by rw [getL_len]; omega) (.inr hB2) ?_⟩
        intro H3 hk3 ho3
        rw [wrap64 (by omega), getL_succ] at ho3
        (conv => whnf); repeat first | (refine drw (by decide +kernel) ?_; conv => whnf) | (refine fun (_ : Nat) (_ : _ ≤ _) (_ : _ = none) => ?_; conv => whnf)
        exact ⟨(y.1 + 1, H3), ⟨by dsimp only; omega, fun i o h => hk3 i o (fun e => by subst e; rw [hr3] at h; cases h) (hy2 i o h), hy3.mono (fun o ho => hk3 _ _ n13 ho), hy4.mono (fun o ho => hk3 _ _ n23 ho), ho3⟩, by dsimp only; omega, ⟨congrArg (fun n => some (SV.v (.int .i64 n))) nx, rfl, rfl, rfl, rfl, rfl, trivial⟩, ⟨[], rfl⟩, rfl⟩
      · have hy8 : y.1 = 8 := by omega
        rw [hy8] at hy5
        (conv => whnf); repeat first | (refine drw (by decide +kernel) ?_; conv => whnf) | (refine fun (_ : Nat) (_ : _ ≤ _) (_ : _ = none) => ?_; conv => whnf)
        refine ⟨intsV [(nodeOf bs).p0, (nodeOf bs).p1, (nodeOf bs).p2, (nodeOf bs).p3, (nodeOf bs).p4, (nodeOf bs).p5], hy5.rd 0 8 8 6 (by rw [getL_len]; decide), IO_.store hy4 [(nodeOf bs).p0, (nodeOf bs).p1, (nodeOf bs).p2, (nodeOf bs).p3, (nodeOf bs).p4, (nodeOf bs).p5] 4 (Nat.le_of_ble_eq_true rfl) (.inr hx1) ?_⟩
        intro H3 hk3 ho32
        have ho33 := hy5.mono (fun o ho => hk3 _ _ (fun e => n23 e.symm) ho)
        have hs3 : Sub H H3 := fun i o h => hk3 i o (fun e => by subst e; rw [hx2] at h; cases h) (hy2 i o h)
        have ho31 := hy3.mono (fun o ho => hk3 _ _ hx3 ho)
        (conv => whnf); repeat first | (refine drw (by decide +kernel) ?_; conv => whnf) | (refine fun (_ : Nat) (_ : _ ≤ _) (_ : _ = none) => ?_; conv => whnf)
        refine ⟨⟨by decide, by decide⟩, ?_⟩
        (conv => whnf); repeat first | (refine drw (by decide +kernel) ?_; conv => whnf) | (refine fun (_ : Nat) (_ : _ ≤ _) (_ : _ = none) => ?_; conv => whnf)
        refine ⟨.int .i64 (nodeOf bs).a, ho33.cell 6 (by rw [getL_len]; decide), ?_⟩
        (conv => whnf); repeat first | (refine drw (by decide +kernel) ?_; conv => whnf) | (refine fun (_ : Nat) (_ : _ ≤ _) (_ : _ = none) => ?_; conv => whnf)
        refine ⟨⟨by decide, by decide⟩, ?_⟩
        (conv => whnf); repeat first | (refine drw (by decide +kernel) ?_; conv => whnf) | (refine fun (_ : Nat) (_ : _ ≤ _) (_ : _ = none) => ?_; conv => whnf)
        refine ⟨.int .i64 (nodeOf bs).b, ho33.cell 7 (by rw [getL_len]; decide), ?_⟩
        (conv => whnf); repeat first | (refine drw (by decide +kernel) ?_; conv => whnf) | (refine fun (_ : Nat) (_ : _ ≤ _) (_ : _ = none) => ?_; conv => whnf)
        refine ⟨rfl, IO_.store ho32 [(nodeOf bs).a] 10 (Nat.le_of_ble_eq_true rfl) (.inr hx1) ?_⟩
        intro H4 hk4 ho42
        have hs4 : Sub H H4 := fun i o h => hk4 i o (fun e => by subst e; rw [hx2] at h; cases h) (hs3 i o h)
        have ho41 := ho31.mono (fun o ho => hk4 _ _ hx3 ho)
        (conv => whnf); repeat first | (refine drw (by decide +kernel) ?_; conv => whnf) | (refine fun (_ : Nat) (_ : _ ≤ _) (_ : _ = none) => ?_; conv => whnf)
        refine ⟨rfl, IO_.store ho42 [(nodeOf bs).b] 11 (Nat.le_of_ble_eq_true rfl) (.inr hx1) ?_⟩
        intro H5 hk5 ho52
        have hs5 : Sub H H5 := fun i o h => hk5 i o (fun e => by subst e; rw [hx2] at h; cases h) (hs4 i o h)
        have ho51 := ho41.mono (fun o ho => hk5 _ _ hx3 ho)
        have hb5 := hb.mono hs5
        have ho52' : IO_ H5 x.1 (nodeOf bs).is := ho52
        have hg : getN bs = if bs.getD 1 0 = 0 ∧ (bs.drop 32).all (· == 0) = true ∧ (nodeOf bs).right = true then (nodeOf bs, 0) else (nZ, 8) := by
          unfold getN; rw [if_pos hlen]
        obtain ⟨nd, hnd⟩ : ∃ nd, nodeOf bs = nd := ⟨_, rfl⟩
        rw [hnd] at ho52' hg
        (conv => whnf); repeat first | (refine drw (by decide +kernel) ?_; conv => whnf) | (refine fun (_ : Nat) (_ : _ ≤ _) (_ : _ = none) => ?_; conv => whnf)
        refine ⟨⟨by decide, by decide⟩, ?_⟩
        (conv => whnf); repeat first | (refine drw (by decide +kernel) ?_; conv => whnf) | (refine fun (_ : Nat) (_ : _ ≤ _) (_ : _ = none) => ?_; conv => whnf)
        refine ⟨_, hb5.get 1 (by omega), ?_⟩
        (conv => whnf); repeat first | (refine drw (by decide +kernel) ?_; conv => whnf) | (refine fun (_ : Nat) (_ : _ ≤ _) (_ : _ = none) => ?_; conv => whnf)
        refine vif_not (fun h2 => ?_) (fun h2 => ?_)
        · have hg' : getN bs = (nZ, 8) := by rw [hg, if_neg (fun h => h2 (by rw [h.1]; rfl))]
          (conv => whnf); repeat first | (refine drw (by decide +kernel) ?_; conv => whnf) | (refine fun (_ : Nat) (_ : _ ≤ _) (_ : _ = none) => ?_; conv => whnf)
          rw [hg']
          refine ⟨rfl, IO_.store ho51 nZ.is 0 (Nat.le_of_ble_eq_true rfl) (.inr hB1) ?_⟩
          intro H6 hk6 ho6
          have ho6' : IO_ H6 r1 nZ.is := ho6
          (conv => whnf); repeat first | (refine drw (by decide +kernel) ?_; conv => whnf) | (refine fun (_ : Nat) (_ : _ ≤ _) (_ : _ = none) => ?_; conv => whnf)
          exact ⟨_, ho6'.all rfl, rfl⟩
        · have h2' : bs.getD 1 0 = 0 := UInt8.toNat_inj.1 (by have h3 : ((bs.getD 1 0).toNat : Int) = 0 := h2; have : (0 : UInt8).toNat = 0 := rfl; omega)
          (conv => whnf); repeat first | (refine drw (by decide +kernel) ?_; conv => whnf) | (refine fun (_ : Nat) (_ : _ ≤ _) (_ : _ = none) => ?_; conv => whnf)
          refine ⟨⟨by decide, by omega⟩, ?_⟩
          (conv => whnf); repeat first | (refine drw (by decide +kernel) ?_; conv => whnf) | (refine fun (_ : Nat) (_ : _ ≤ _) (_ : _ = none) => ?_; conv => whnf)
          have hs32 := hb5.sub 32 64 (by omega) (by omega)
          have e32 : (bs.drop 32).take (64 - 32) = bs.drop 32 := List.take_of_length_le (by simp; omega)
          rw [e32] at hs32
          (refine VCall.pure_ (by kernel_rfl) (fun w hs => zero_ok w hs hs32 (by omega)) ?_); (conv => whnf); repeat first | (refine drw (by decide +kernel) ?_; conv => whnf) | (refine fun (_ : Nat) (_ : _ ≤ _) (_ : _ = none) => ?_; conv => whnf)
          refine vif_intro (fun h3 => ?_) (fun h3 => ?_)
          · have hg' : getN bs = (nZ, 8) := by rw [hg, if_neg (fun h => by rw [h.2.1] at h3; cases h3)]
            (conv => whnf); repeat first | (refine drw (by decide +kernel) ?_; conv => whnf) | (refine fun (_ : Nat) (_ : _ ≤ _) (_ : _ = none) => ?_; conv => whnf)
            rw [hg']
            refine ⟨rfl, IO_.store ho51 nZ.is 0 (Nat.le_of_ble_eq_true rfl) (.inr hB1) ?_⟩
            intro H6 hk6 ho6
            have ho6' : IO_ H6 r1 nZ.is := ho6
            (conv => whnf); repeat first | (refine drw (by decide +kernel) ?_; conv => whnf) | (refine fun (_ : Nat) (_ : _ ≤ _) (_ : _ = none) => ?_; conv => whnf)
            exact ⟨_, ho6'.all rfl, rfl⟩
          · have h3' : (bs.drop 32).all (· == 0) = true := by simpa using h3
            (conv => whnf); repeat first | (refine drw (by decide +kernel) ?_; conv => whnf) | (refine fun (_ : Nat) (_ : _ ≤ _) (_ : _ = none) => ?_; conv => whnf)
            refine ⟨_, ho52'.all rfl, ?_⟩
            (conv => whnf); repeat first | (refine drw (by decide +kernel) ?_; conv => whnf) | (refine fun (_ : Nat) (_ : _ ≤ _) (_ : _ = none) => ?_; conv => whnf)
            (refine VCall.pure_ (by kernel_rfl) (fun w hs => iright_ok nd w) ?_); (conv => whnf); repeat first | (refine drw (by decide +kernel) ?_; conv => whnf) | (refine fun (_ : Nat) (_ : _ ≤ _) (_ : _ = none) => ?_; conv => whnf)
            refine vif_intro (fun h4 => ?_) (fun h4 => ?_)
            · have hg' : getN bs = (nZ, 8) := by rw [hg, if_neg (fun h => by rw [h.2.2] at h4; cases h4)]
              (conv => whnf); repeat first | (refine drw (by decide +kernel) ?_; conv => whnf) | (refine fun (_ : Nat) (_ : _ ≤ _) (_ : _ = none) => ?_; conv => whnf)
              rw [hg']
              refine ⟨rfl, IO_.store ho51 nZ.is 0 (Nat.le_of_ble_eq_true rfl) (.inr hB1) ?_⟩
              intro H6 hk6 ho6
              have ho6' : IO_ H6 r1 nZ.is := ho6
              (conv => whnf); repeat first | (refine drw (by decide +kernel) ?_; conv => whnf) | (refine fun (_ : Nat) (_ : _ ≤ _) (_ : _ = none) => ?_; conv => whnf)
              exact ⟨_, ho6'.all rfl, rfl⟩
            · have hg' : getN bs = (nd, 0) := by rw [hg, if_pos ⟨h2', h3', by simpa using h4⟩]
              (conv => whnf); repeat first | (refine drw (by decide +kernel) ?_; conv => whnf) | (refine fun (_ : Nat) (_ : _ ≤ _) (_ : _ = none) => ?_; conv => whnf)
              rw [hg']
              refine ⟨_, ho52'.all rfl, ?_⟩
              (conv => whnf); repeat first | (refine drw (by decide +kernel) ?_; conv => whnf) | (refine fun (_ : Nat) (_ : _ ≤ _) (_ : _ = none) => ?_; conv => whnf)
              refine ⟨rfl, IO_.store ho51 nd.is 0 (Nat.le_of_ble_eq_true rfl) (.inr hB1) ?_⟩
              intro H6 hk6 ho6
              have ho6' : IO_ H6 r1 nd.is := ho6
              (conv => whnf); repeat first | (refine drw (by decide +kernel) ?_; conv => whnf) | (refine fun (_ : Nat) (_ : _ ≤ _) (_ : _ = none) => ?_; conv => whnf)
              exact ⟨_, ho6'.all rfl, rfl⟩

def readN (bs : List UInt8) (p : Int) : Nd × Int :=
  if bs.length = 256 then (if p < 0 ∨ p ≥ 4 then (nZ, 3) else getN ((bs.drop (p.toNat * 64)).take 64)) else (nZ, 4)

theorem iread_ok {H : HV} {a : Option Addr} {n c : Nat} {bs : List UInt8} (p : Int) (w : World) (hs : ∀ i o, H i = some o → w.heap[i]? = some o) (hb : BS H a n c bs) (hn : n < 4611686018427387904) :
    Calls Tryz.prog 129 #[yV a n c, iV p] w (RetP (nVE (readN bs p).1 (readN bs p).2) w) := by
  have hlen := hb.len
  refine fn_pure (args := [yV a n c, iV p]) tabH Tryz.func129 rfl (by kernel_rfl)  hs ?_
  (conv => whnf); repeat first | (refine drw (by decide +kernel) ?_; conv => whnf) | (refine fun (_ : Nat) (_ : _ ≤ _) (_ : _ = none) => ?_; conv => whnf)
  intro r1 H1 hB1 hN1 hE1
  have ho1 : IO_ H1 r1 nZ.is := ⟨_, hE1.new⟩
  have hb1 := hb.mono hE1.old
  (conv => whnf); repeat first | (refine drw (by decide +kernel) ?_; conv => whnf) | (refine fun (_ : Nat) (_ : _ ≤ _) (_ : _ = none) => ?_; conv => whnf)
  (refine VCall.pure_ (by kernel_rfl) (fun w hs => imay_ok _ _ _ _ w) ?_); (conv => whnf); repeat first | (refine drw (by decide +kernel) ?_; conv => whnf) | (refine fun (_ : Nat) (_ : _ ≤ _) (_ : _ = none) => ?_; conv => whnf)
  by_cases h1 : n = 256
  · rw [if_pos h1]
    by_cases h2 : p < 0 ∨ p ≥ 4
    · rw [if_pos h2]
      have hg' : readN bs p = (nZ, 3) := by unfold readN; rw [if_pos (by omega), if_pos h2]
      (conv => whnf); repeat first | (refine drw (by decide +kernel) ?_; conv => whnf) | (refine fun (_ : Nat) (_ : _ ≤ _) (_ : _ = none) => ?_; conv => whnf)
      rw [hg']
      refine ⟨rfl, IO_.store ho1 nZ.is 0 (Nat.le_of_ble_eq_true rfl) (.inr hB1) ?_⟩
      intro H6 hk6 ho6
      have ho6' : IO_ H6 r1 nZ.is := ho6
      (conv => whnf); repeat first | (refine drw (by decide +kernel) ?_; conv => whnf) | (refine fun (_ : Nat) (_ : _ ≤ _) (_ : _ = none) => ?_; conv => whnf)
      exact ⟨_, ho6'.all rfl, rfl⟩
    · rw [if_neg h2]
      subst h1
      obtain ⟨k, rfl⟩ : ∃ k : Nat, p = k := ⟨p.toNat, by omega⟩
      obtain ⟨b, off, rfl⟩ := hb.nonempty (by omega)
      have hcap := hb.le
      have e1 : IntKind.i64.wrap ((k : Int) * 64) = ((k * 64 : Nat) : Int) := by rw [wrap64 (by omega)]; omega
      have e2 : IntKind.i64.wrap (IntKind.i64.wrap ((k : Int) + 1) * 64) = ((k * 64 + 64 : Nat) : Int) := by rw [wrap64 (n := (k : Int) + 1) (by omega), wrap64 (by omega)]; omega
      (conv => whnf); repeat first | (refine drw (by decide +kernel) ?_; conv => whnf) | (refine fun (_ : Nat) (_ : _ ≤ _) (_ : _ = none) => ?_; conv => whnf)
      rw [e1, e2]
      refine ⟨⟨by omega, by omega, by omega⟩, ?_⟩
      (conv => whnf); repeat first | (refine drw (by decide +kernel) ?_; conv => whnf) | (refine fun (_ : Nat) (_ : _ ≤ _) (_ : _ = none) => ?_; conv => whnf)
      have hsb := hb1.sub (k * 64) (k * 64 + 64) (by omega) (by omega)
      have hg' : readN bs (k : Int) = getN ((bs.drop (k * 64)).take (k * 64 + 64 - k * 64)) := by
        unfold readN
        rw [if_pos (by omega), if_neg h2, show k * 64 + 64 - k * 64 = 64 from by omega]; rfl
      rw [hg']
      generalize (bs.drop (k * 64)).take (k * 64 + 64 - k * 64) = xs at *
      (refine VCall.pure_ (by kernel_rfl) (fun w hs => iget_ok w hs hsb (by omega)) ?_); (conv => whnf); repeat first | (refine drw (by decide +kernel) ?_; conv => whnf) | (refine fun (_ : Nat) (_ : _ ≤ _) (_ : _ = none) => ?_; conv => whnf)
      generalize getN xs = q
      refine ⟨rfl, IO_.store ho1 q.1.is 0 (Nat.le_of_ble_eq_true rfl) (.inr hB1) ?_⟩
      intro H6 hk6 ho6
      have ho6' : IO_ H6 r1 q.1.is := by
        have e : spliceI nZ.is 0 q.1.is = q.1.is := rfl
        rw [← e]; exact ho6
      (conv => whnf); repeat first | (refine drw (by decide +kernel) ?_; conv => whnf) | (refine fun (_ : Nat) (_ : _ ≤ _) (_ : _ = none) => ?_; conv => whnf)
      exact ⟨_, ho6'.all rfl, rfl⟩
  · rw [if_neg h1]
    have hg' : readN bs p = (nZ, 4) := by unfold readN; rw [if_neg (by omega)]
    (conv => whnf); repeat first | (refine drw (by decide +kernel) ?_; conv => whnf) | (refine fun (_ : Nat) (_ : _ ≤ _) (_ : _ = none) => ?_; conv => whnf)
    rw [hg']
    refine ⟨rfl, IO_.store ho1 nZ.is 0 (Nat.le_of_ble_eq_true rfl) (.inr hB1) ?_⟩
    intro H6 hk6 ho6
    have ho6' : IO_ H6 r1 nZ.is := ho6
    (conv => whnf); repeat first | (refine drw (by decide +kernel) ?_; conv => whnf) | (refine fun (_ : Nat) (_ : _ ≤ _) (_ : _ = none) => ?_; conv => whnf)
    exact ⟨_, ho6'.all rfl, rfl⟩
end Go.Proofs.YtlkgjffffeohdaaGreat
