/- Disks: what is read and written. -/
import Derived.Test.YtlkgjffffeohdaaGreatDisk
set_option linter.unusedVariables false
set_option linter.unusedSimpArgs false
namespace Go.Proofs.YtlkgjffffeohdaaGreat
open Go Go.Eng Go.Proofs

theorem dmay_in {H : HV} {F : Nat → Prop} {p : Nat} {d : Dk} {b : Int} (hb : 0 ≤ b ∧ b < d.n) (w : World) (hs : ∀ i o, H i = some o → w.heap[i]? = some o) (hd : DiskAt H F p d) : Calls Tryz.prog 100 #[pV p, iV b] w (RetP (iV 0) w) := by
  have := dmay_ok b w hs hd
  rw [if_pos hb] at this; exact this
theorem dmay_out {H : HV} {F : Nat → Prop} {p : Nat} {d : Dk} {b : Int} (hb : ¬ (0 ≤ b ∧ b < d.n)) (w : World) (hs : ∀ i o, H i = some o → w.heap[i]? = some o) (hd : DiskAt H F p d) : Calls Tryz.prog 100 #[pV p, iV b] w (RetP (iV 3) w) := by
  have := dmay_ok b w hs hd
  rw [if_neg hb] at this; exact this

theorem splice_zero {xs : List UInt8} (h : xs.length = 256) : splice (List.replicate 256 0) 0 xs = xs := by
  unfold splice; rw [h, List.drop_of_length_le (by rw [List.length_replicate]; decide)]; simp

theorem dread_ok {H : HV} {F : Nat → Prop} {p : Nat} {d : Dk} (b : Int) (w : World) (hs : ∀ i o, H i = some o → w.heap[i]? = some o) (hd : DiskAt H F p d) : Calls Tryz.prog 105 #[pV p, iV b] w (Ret H (fun _ => False) (fun v H1 => Is (
    if 0 ≤ b ∧ b < d.n then ∃ r, v = .tuple #[fresh r 256, iV 0] ∧ H r = none ∧ BO H1 r (d.last b.toNat) else v = .tuple #[nilS, iV 3])) w) := by
  refine fn_ret (args := [pV p, iV b]) tabH Tryz.func105 rfl (by kernel_rfl)  hs ?_
  by_cases hb : 0 ≤ b ∧ b < d.n
  · obtain ⟨k, rfl⟩ : ∃ k : Nat, b = k := ⟨b.toNat, by omega⟩
    have hlen := Dk.last_len hd.ok k
    (conv => whnf); repeat first | (refine drw (by decide +kernel) ?_; conv => whnf) | (refine fun (_ : Nat) (_ : _ ≤ _) (_ : _ = none) => ?_; conv => whnf)
    (refine VCall.pure_ (by kernel_rfl) (fun w hs => dmay_in hb w hs hd) ?_); (conv => whnf); repeat first | (refine drw (by decide +kernel) ?_; conv => whnf) | (refine fun (_ : Nat) (_ : _ ≤ _) (_ : _ = none) => ?_; conv => whnf)
    (refine VCall.pure_ (by kernel_rfl) (fun w hs => dlast_ok k w hs hd (by omega)) ?_); (conv => whnf); repeat first | (refine drw (by decide +kernel) ?_; conv => whnf) | (refine fun (_ : Nat) (_ : _ ≤ _) (_ : _ = none) => ?_; conv => whnf)
    intro r H1 hB hN hE
    have hb0 : BO H1 r (List.replicate 256 0) := BO.zeros hE.new
    (conv => whnf); repeat first | (refine drw (by decide +kernel) ?_; conv => whnf) | (refine fun (_ : Nat) (_ : _ ≤ _) (_ : _ = none) => ?_; conv => whnf)
    refine ⟨by show (bytesV _).length = 256; rw [bytesV_len, hlen], BO.store hb0 _ 0 (by rw [hlen, List.length_replicate]; decide) (.inr hB) ?_⟩
    intro H2 hk2 hb2
    rw [splice_zero hlen] at hb2
    (conv => whnf); repeat first | (refine drw (by decide +kernel) ?_; conv => whnf) | (refine fun (_ : Nat) (_ : _ ≤ _) (_ : _ = none) => ?_; conv => whnf)
    exact ⟨by rw [if_pos hb]; exact ⟨r, rfl, hN, hb2⟩⟩
  · (conv => whnf); repeat first | (refine drw (by decide +kernel) ?_; conv => whnf) | (refine fun (_ : Nat) (_ : _ ≤ _) (_ : _ = none) => ?_; conv => whnf)
    (refine VCall.pure_ (by kernel_rfl) (fun w hs => dmay_out hb w hs hd) ?_); (conv => whnf); repeat first | (refine drw (by decide +kernel) ?_; conv => whnf) | (refine fun (_ : Nat) (_ : _ ≤ _) (_ : _ = none) => ?_; conv => whnf)
    exact ⟨by rw [if_neg hb]; rfl⟩

theorem dsafe_ok {H : HV} {F : Nat → Prop} {p : Nat} {d : Dk} (b : Int) (w : World) (hs : ∀ i o, H i = some o → w.heap[i]? = some o) (hd : DiskAt H F p d) : Calls Tryz.prog 98 #[pV p, iV b] w (Ret H (fun _ => False) (fun v H1 => Is (
    if 0 ≤ b ∧ b < d.n then ∃ r, v = .tuple #[fresh r 256, iV 0] ∧ H r = none ∧ BO H1 r (d.S b.toNat) else v = .tuple #[nilS, iV 3])) w) := by
  refine fn_ret (args := [pV p, iV b]) tabH Tryz.func98 rfl (by kernel_rfl)  hs ?_
  by_cases hb : 0 ≤ b ∧ b < d.n
  · obtain ⟨k, rfl⟩ : ∃ k : Nat, b = k := ⟨b.toNat, by omega⟩
    have hlen := hd.ok.s k
    obtain ⟨q, m, f, hp, hq, hm, hpq, ⟨ty, hc⟩, hbo, hmo, hf1, hf2⟩ := hd.out
    have f0 : RdC H p 0 (.slice (some ⟨q, 0, none⟩) d.n d.n) := ⟨_, ty, _, hc, rfl⟩
    have hpt := hbo.part (256 * k) 256 (by rw [flat_length hd.ok.s]; omega)
    rw [flat_part hd.ok.s d.n (by omega)] at hpt
    (conv => whnf); repeat first | (refine drw (by decide +kernel) ?_; conv => whnf) | (refine fun (_ : Nat) (_ : _ ≤ _) (_ : _ = none) => ?_; conv => whnf)
    (refine VCall.pure_ (by kernel_rfl) (fun w hs => dmay_in hb w hs hd) ?_); (conv => whnf); repeat first | (refine drw (by decide +kernel) ?_; conv => whnf) | (refine fun (_ : Nat) (_ : _ ≤ _) (_ : _ = none) => ?_; conv => whnf)
    refine ⟨_, f0, ?_⟩
    (conv => whnf); repeat first | (refine drw (by decide +kernel) ?_; conv => whnf) | (refine fun (_ : Nat) (_ : _ ≤ _) (_ : _ = none) => ?_; conv => whnf)
    refine ⟨by omega, ?_⟩
    (conv => whnf); repeat first | (refine drw (by decide +kernel) ?_; conv => whnf) | (refine fun (_ : Nat) (_ : _ ≤ _) (_ : _ = none) => ?_; conv => whnf)
    refine ⟨⟨bytesV (d.S k)⟩, by have e : 0 + (k : Int).toNat * 256 = 256 * k := by (show 0 + k * 256 = 256 * k; omega)
                                 rw [← e] at hpt; exact hpt, ?_⟩
    (conv => whnf); repeat first | (refine drw (by decide +kernel) ?_; conv => whnf) | (refine fun (_ : Nat) (_ : _ ≤ _) (_ : _ = none) => ?_; conv => whnf)
    intro r H1 hB hN hE
    have hb0 : BO H1 r (List.replicate 256 0) := BO.zeros hE.new
    (conv => whnf); repeat first | (refine drw (by decide +kernel) ?_; conv => whnf) | (refine fun (_ : Nat) (_ : _ ≤ _) (_ : _ = none) => ?_; conv => whnf)
    refine ⟨by show (bytesV _).length = 256; rw [bytesV_len, hlen], BO.store hb0 _ 0 (by rw [hlen, List.length_replicate]; decide) (.inr hB) ?_⟩
    intro H2 hk2 hb2
    rw [splice_zero hlen] at hb2
    (conv => whnf); repeat first | (refine drw (by decide +kernel) ?_; conv => whnf) | (refine fun (_ : Nat) (_ : _ ≤ _) (_ : _ = none) => ?_; conv => whnf)
    exact ⟨by rw [if_pos hb]; exact ⟨r, rfl, hN, hb2⟩⟩
  · (conv => whnf); repeat first | (refine drw (by decide +kernel) ?_; conv => whnf) | (refine fun (_ : Nat) (_ : _ ≤ _) (_ : _ = none) => ?_; conv => whnf)
    (refine VCall.pure_ (by kernel_rfl) (fun w hs => dmay_out hb w hs hd) ?_); (conv => whnf); repeat first | (refine drw (by decide +kernel) ?_; conv => whnf) | (refine fun (_ : Nat) (_ : _ ≤ _) (_ : _ = none) => ?_; conv => whnf)
    exact ⟨by rw [if_neg hb]; rfl⟩

theorem dgoes_ok {H : HV} {F : Nat → Prop} {p : Nat} {d : Dk} (w : World) (hs : ∀ i o, H i = some o → w.heap[i]? = some o) (hd : DiskAt H F p d) : Calls Tryz.prog 101 #[pV p] w (Ret H F (fun v H1 => v = bV true ∧ Sub H H1) w) := by
  refine fn_ret (args := [pV p]) tabH Tryz.func101 rfl (by kernel_rfl)  hs ?_
  obtain ⟨q, m, f, hp, hq, hm, hpq, ⟨ty, hc⟩, hbo, hmo, hf1, hf2⟩ := hd.out
  have f2 : RdC H p 2 (.int .i64 (-1)) := ⟨_, ty, _, hc, rfl⟩
  (conv => whnf); repeat first | (refine drw (by decide +kernel) ?_; conv => whnf) | (refine fun (_ : Nat) (_ : _ ≤ _) (_ : _ = none) => ?_; conv => whnf)
  refine ⟨_, f2, ?_⟩
  (conv => whnf); repeat first | (refine drw (by decide +kernel) ?_; conv => whnf) | (refine fun (_ : Nat) (_ : _ ≤ _) (_ : _ = none) => ?_; conv => whnf)
  refine ⟨_, f2, ?_⟩
  (conv => whnf); repeat first | (refine drw (by decide +kernel) ?_; conv => whnf) | (refine fun (_ : Nat) (_ : _ ≤ _) (_ : _ = none) => ?_; conv => whnf)
  refine ⟨rfl, _, ty, _, hc, (Nat.le_refl 3), .inr (.inl (Nat.zero_le _)), .inl hp, ?_, ?_⟩
  · intro v hv
    rw [List.mem_singleton.1 hv]; rfl
  intro H1 hU
  (conv => whnf); repeat first | (refine drw (by decide +kernel) ?_; conv => whnf) | (refine fun (_ : Nat) (_ : _ ≤ _) (_ : _ = none) => ?_; conv => whnf)
  refine ⟨rfl, fun i o hi => ?_⟩
  by_cases e : i = p
  · subst e
    rw [hU.new, ← hi, hc]; rfl
  · exact hU.old i o e hi

theorem DiskAt.wrote {H H3 H4 : HV} {F : Nat → Prop} {p q m r3 c3 ty k : Nat} {d : Dk} {f : Int → Option Value} {xs : List UInt8} (ok : d.Ok) (hdom : ∀ i, F i → ∃ o, H i = some o) (hp : F p) (hq : F q) (hm : F m) (hpq : p ≠ q)
    (hc : H p = some (.cells #[.slice (some ⟨q, 0, none⟩) d.n d.n, .map (some m), .int .i64 (-1)] ty (0, 0))) (hbo : BO H q (flat d.S d.n)) (hmo : MO H m f)
    (hf1 : ∀ b : Nat, f b = none → d.V b = []) (hf2 : ∀ k v, f k = some v → ∃ b : Nat, k = b ∧ b < d.n ∧ VerAt H F p q v (d.V b)) (hk : k < d.n) (hx : xs.length = 256) (hsm : (d.V k).length < 1000000)
    (hS : Sub H H3) (hN : H r3 = none) (hos : OS H3 159 256 (some r3) ((d.V k).length + 1) c3 (bytesV (d.V k).flatten ++ bytesV xs)) (h4 : ∀ i x, i ≠ m → H3 i = some x → H4 i = some x) (hm4 : MO H4 m (upd f k (some (slV (some r3) ((d.V k).length + 1) c3)))) :
    ∃ F', DiskAt H4 F' p (d.write k xs) ∧ Grow H F F' := by
  obtain ⟨es, ec, hem, _⟩ := hmo
  have hpm : p ≠ m := fun e => by rw [← e, hc] at hem; cases hem
  have hqm : q ≠ m := fun e => by obtain ⟨_, _, h, _⟩ := hbo; rw [← e, h] at hem; cases hem
  have up : ∀ i o, i ≠ m → H i = some o → H4 i = some o := fun i o hi ho => h4 i o hi (hS i o ho)
  have hr3 : ∃ o, H3 r3 = some o := by obtain ⟨_, g, _⟩ := hos.out; exact ⟨_, g⟩
  have hrm : r3 ≠ m := fun e => by rw [e, hem] at hN; cases hN
  refine ⟨fun i => F i ∨ i = r3, ⟨ok.write hk hx, ?_, q, m, _, .inl hp, .inl hq, .inl hm, hpq, ⟨ty, up _ _ hpm hc⟩, hbo.mono (fun o ho => up _ _ hqm ho), hm4, ?_, ?_⟩, ?_⟩
  · rintro i (hi | rfl)
    · obtain ⟨o, ho⟩ := hdom i hi
      by_cases e : i = m
      · subst e; obtain ⟨_, _, g, _⟩ := hm4; exact ⟨_, g⟩
      · exact ⟨o, up _ _ e ho⟩
    · obtain ⟨o, ho⟩ := hr3; exact ⟨o, h4 _ _ hrm ho⟩
  · intro b hb
    by_cases e : b = k
    · subst e; rw [upd_self] at hb; cases hb
    · rw [upd_ne _ _ _ (by omega)] at hb
      show upd d.V k _ b = []
      rw [upd_ne _ _ _ e]; exact hf1 b hb
  · intro j v hv
    by_cases e : j = k
    · subst e
      rw [upd_self] at hv; cases hv
      refine ⟨k, rfl, hk, ?_⟩
      show VerAt _ _ _ _ _ (upd d.V k _ k)
      rw [upd_self]
      have e1 : (d.V k ++ [xs]).length = (d.V k).length + 1 := by simp
      refine ⟨⟨r3, c3, by rw [e1], .inr rfl, (fun e => by rw [e, hc] at hN; cases hN), (fun e => by obtain ⟨_, _, h, _⟩ := hbo; rw [e, h] at hN; cases hN), ?_⟩, by simp, fun x hx' => ?_, by rw [e1]; omega⟩
      · rw [e1, List.flatten_append, bytesV_app]
        simp only [List.flatten_cons, List.flatten_nil, List.append_nil]
        exact hos.mono (fun r o hr ho => by cases hr; exact h4 _ _ hrm ho)
      · rcases List.mem_append.1 hx' with h | h
        · exact ok.v k x h
        · rw [List.mem_singleton.1 h]; exact hx
    · rw [upd_ne _ _ _ e] at hv
      obtain ⟨b, e1, e2, e3⟩ := hf2 j v hv
      refine ⟨b, e1, e2, ?_⟩
      show VerAt _ _ _ _ _ (upd d.V k _ b)
      rw [upd_ne _ _ _ (by omega)]
      refine e3.mono (fun i o hi h1 h2 ho' ho => ?_) (fun i hi => .inl hi)
      refine up i o (fun e => ?_) ho
      obtain ⟨a, t, fr, rfl⟩ := ho'
      rw [e, hem] at ho; cases ho
  · refine ⟨?_, fun i h => .inl h⟩
    rintro i (hi | rfl)
    · exact .inl hi
    · exact .inr hN

theorem dwrite_ok {H : HV} {F : Nat → Prop} {p : Nat} {d : Dk} {a : Option Addr} {n c : Nat} {xs : List UInt8} (b : Int) (w : World) (hs : ∀ i o, H i = some o → w.heap[i]? = some o) (hd : DiskAt H F p d) (hx : BS H a n c xs) (hn : n < 4611686018427387904)
    (hsm : 0 ≤ b ∧ b < d.n → (d.V b.toNat).length < 1000000) : Calls Tryz.prog 20 #[pV p, iV b, yV a n c] w (Ret H F (fun v H1 => Is (
    if 0 ≤ b ∧ b < d.n then (if n = 256 then v = iV 0 ∧ ∃ F', DiskAt H1 F' p (d.write b.toNat xs) ∧ Grow H F F' else v = iV 4 ∧ Sub H H1) else v = iV 3 ∧ Sub H H1)) w) := by
  refine fn_ret (args := [pV p, iV b, yV a n c]) tabH Tryz.func20 rfl (by kernel_rfl)  hs ?_
  by_cases hb : 0 ≤ b ∧ b < d.n
  · obtain ⟨k, rfl⟩ : ∃ k : Nat, b = k := ⟨b.toNat, by omega⟩
    have hsm : (d.V k).length < 1000000 := hsm hb
    (conv => whnf); repeat first | (refine drw (by decide +kernel) ?_; conv => whnf) | (refine fun (_ : Nat) (_ : _ ≤ _) (_ : _ = none) => ?_; conv => whnf)
    (refine VCall.pure_ (by kernel_rfl) (fun w hs => dmay_in hb w hs hd) ?_); (conv => whnf); repeat first | (refine drw (by decide +kernel) ?_; conv => whnf) | (refine fun (_ : Nat) (_ : _ ≤ _) (_ : _ = none) => ?_; conv => whnf)
    refine vif_not (fun h1 => ?_) (fun h1 => ?_)
    · (conv => whnf); repeat first | (refine drw (by decide +kernel) ?_; conv => whnf) | (refine fun (_ : Nat) (_ : _ ≤ _) (_ : _ = none) => ?_; conv => whnf)
      exact ⟨by rw [if_pos hb, if_neg (by omega)]; exact ⟨rfl, fun i o h => h⟩⟩
    · have hn2 : n = 256 := by omega
      subst hn2
      obtain ⟨b0, off, rfl⟩ := hx.nonempty (by omega)
      obtain ⟨q, m, f, hp, hq, hm, hpq, ⟨ty, hc⟩, hbo, hmo, hf1, hf2⟩ := hd.out
      have f1 : RdC H p 1 (.map (some m)) := ⟨_, ty, _, hc, rfl⟩
      have hxl := hx.len
      (conv => whnf); repeat first | (refine drw (by decide +kernel) ?_; conv => whnf) | (refine fun (_ : Nat) (_ : _ ≤ _) (_ : _ = none) => ?_; conv => whnf)
      refine ⟨_, f1, ?_⟩
      (conv => whnf); repeat first | (refine drw (by decide +kernel) ?_; conv => whnf) | (refine fun (_ : Nat) (_ : _ ≤ _) (_ : _ = none) => ?_; conv => whnf)
      refine hmo.look k (fun v hv => ?_) (fun hnone => ?_)
      · obtain ⟨b', e1, e2, hver⟩ := hf2 k v hv
        have : b' = k := by omega
        subst this
        obtain ⟨r, c1, rfl, hFr, hrp, hrq, hos⟩ := hver.out
        have hle := hos.le
        (conv => whnf); repeat first | (refine drw (by decide +kernel) ?_; conv => whnf) | (refine fun (_ : Nat) (_ : _ ≤ _) (_ : _ = none) => ?_; conv => whnf)
        (refine VCall.ret (by kernel_rfl) (fun w hs => dgoes_ok w hs hd) ?_ ?_)
        · rintro i hi; exact ⟨hd.dom i hi, .inl hi⟩
        rintro v H1 hk1 hd1 ⟨rfl, hsub⟩
        have f1' : RdC H1 p 1 (.map (some m)) := by obtain ⟨ar, t1, fr, g1, g2⟩ := f1; exact ⟨ar, t1, fr, hsub _ _ g1, g2⟩
        have hmo1 := hmo.mono (fun o => hsub m o)
        have hx1 : RdA H1 b0 off 256 ⟨bytesV xs⟩ := by
          obtain ⟨ar, t1, fr, g1, g2, g3⟩ := (hx.mono hsub).rd
          refine ⟨ar, t1, fr, g1, by omega, ?_⟩
          apply Array.toList_inj.mp
          rw [show off + 256 = off + 256 * 1 from by omega]
          exact g3
        conv => whnf
        refine VDraw.list [(p, 1, [.map (some m)])] [3] (List.range 17) tabH mixH (by kernel_rfl) ⟨KnownC.c f1' _, trivial⟩ ?_
        (conv => whnf); repeat (first | (refine fun (_ : Nat) (_ : _ ≤ _) (_ : _ = none) => ?_; conv => whnf) | (refine drw (by decide +kernel) ?_; conv => whnf) | (refine And.intro ?_ ?_; (focus (first | ((repeat (first | exact trivial | ((conv => whnf); refine And.intro (by first | exact .inr ⟨0, _, _, rfl, rfl, rfl⟩ | exact .inr ⟨1, _, _, rfl, rfl, rfl⟩ | exact .inr ⟨2, _, _, rfl, rfl, rfl⟩ | exact .inr ⟨3, _, _, rfl, rfl, rfl⟩ | assumption) ?_))); done) | ((conv => whnf); first | exact ⟨0, 0, _, _, _, rfl, (Nat.zero_add _).symm, rfl, rfl⟩ | exact ⟨1, 0, _, _, _, rfl, (Nat.zero_add _).symm, rfl, rfl⟩ | exact ⟨2, 0, _, _, _, rfl, (Nat.zero_add _).symm, rfl, rfl⟩ | exact ⟨3, 0, _, _, _, rfl, (Nat.zero_add _).symm, rfl, rfl⟩ | exact ⟨0, _, 0, _, _, rfl, rfl, rfl, rfl⟩ | exact ⟨1, _, 0, _, _, rfl, rfl, rfl, rfl⟩ | exact ⟨2, _, 0, _, _, rfl, rfl, rfl, rfl⟩ | exact ⟨3, _, 0, _, _, rfl, rfl, rfl, rfl⟩))); conv => whnf))
        refine ⟨_, f1', ?_⟩
        (conv => whnf); repeat (first | (refine fun (_ : Nat) (_ : _ ≤ _) (_ : _ = none) => ?_; conv => whnf) | (refine drw (by decide +kernel) ?_; conv => whnf) | (refine And.intro ?_ ?_; (focus (first | ((repeat (first | exact trivial | ((conv => whnf); refine And.intro (by first | exact .inr ⟨0, _, _, rfl, rfl, rfl⟩ | exact .inr ⟨1, _, _, rfl, rfl, rfl⟩ | exact .inr ⟨2, _, _, rfl, rfl, rfl⟩ | exact .inr ⟨3, _, _, rfl, rfl, rfl⟩ | assumption) ?_))); done) | ((conv => whnf); first | exact ⟨0, 0, _, _, _, rfl, (Nat.zero_add _).symm, rfl, rfl⟩ | exact ⟨1, 0, _, _, _, rfl, (Nat.zero_add _).symm, rfl, rfl⟩ | exact ⟨2, 0, _, _, _, rfl, (Nat.zero_add _).symm, rfl, rfl⟩ | exact ⟨3, 0, _, _, _, rfl, (Nat.zero_add _).symm, rfl, rfl⟩ | exact ⟨0, _, 0, _, _, rfl, rfl, rfl, rfl⟩ | exact ⟨1, _, 0, _, _, rfl, rfl, rfl, rfl⟩ | exact ⟨2, _, 0, _, _, rfl, rfl, rfl, rfl⟩ | exact ⟨3, _, 0, _, _, rfl, rfl, rfl, rfl⟩))); conv => whnf))
        refine ⟨by omega, ?_⟩
        (conv => whnf); repeat (first | (refine fun (_ : Nat) (_ : _ ≤ _) (_ : _ = none) => ?_; conv => whnf) | (refine drw (by decide +kernel) ?_; conv => whnf) | (refine And.intro ?_ ?_; (focus (first | ((repeat (first | exact trivial | ((conv => whnf); refine And.intro (by first | exact .inr ⟨0, _, _, rfl, rfl, rfl⟩ | exact .inr ⟨1, _, _, rfl, rfl, rfl⟩ | exact .inr ⟨2, _, _, rfl, rfl, rfl⟩ | exact .inr ⟨3, _, _, rfl, rfl, rfl⟩ | assumption) ?_))); done) | ((conv => whnf); first | exact ⟨0, 0, _, _, _, rfl, (Nat.zero_add _).symm, rfl, rfl⟩ | exact ⟨1, 0, _, _, _, rfl, (Nat.zero_add _).symm, rfl, rfl⟩ | exact ⟨2, 0, _, _, _, rfl, (Nat.zero_add _).symm, rfl, rfl⟩ | exact ⟨3, 0, _, _, _, rfl, (Nat.zero_add _).symm, rfl, rfl⟩ | exact ⟨0, _, 0, _, _, rfl, rfl, rfl, rfl⟩ | exact ⟨1, _, 0, _, _, rfl, rfl, rfl, rfl⟩ | exact ⟨2, _, 0, _, _, rfl, rfl, rfl, rfl⟩ | exact ⟨3, _, 0, _, _, rfl, rfl, rfl, rfl⟩))); conv => whnf))
        refine ⟨by decide, ?_⟩
        (conv => whnf); repeat (first | (refine fun (_ : Nat) (_ : _ ≤ _) (_ : _ = none) => ?_; conv => whnf) | (refine drw (by decide +kernel) ?_; conv => whnf) | (refine And.intro ?_ ?_; (focus (first | ((repeat (first | exact trivial | ((conv => whnf); refine And.intro (by first | exact .inr ⟨0, _, _, rfl, rfl, rfl⟩ | exact .inr ⟨1, _, _, rfl, rfl, rfl⟩ | exact .inr ⟨2, _, _, rfl, rfl, rfl⟩ | exact .inr ⟨3, _, _, rfl, rfl, rfl⟩ | assumption) ?_))); done) | ((conv => whnf); first | exact ⟨0, 0, _, _, _, rfl, (Nat.zero_add _).symm, rfl, rfl⟩ | exact ⟨1, 0, _, _, _, rfl, (Nat.zero_add _).symm, rfl, rfl⟩ | exact ⟨2, 0, _, _, _, rfl, (Nat.zero_add _).symm, rfl, rfl⟩ | exact ⟨3, 0, _, _, _, rfl, (Nat.zero_add _).symm, rfl, rfl⟩ | exact ⟨0, _, 0, _, _, rfl, rfl, rfl, rfl⟩ | exact ⟨1, _, 0, _, _, rfl, rfl, rfl, rfl⟩ | exact ⟨2, _, 0, _, _, rfl, rfl, rfl, rfl⟩ | exact ⟨3, _, 0, _, _, rfl, rfl, rfl, rfl⟩))); conv => whnf))
        refine ⟨_, hx1, ?_⟩
        (conv => whnf); repeat (first | (refine fun (_ : Nat) (_ : _ ≤ _) (_ : _ = none) => ?_; conv => whnf) | (refine drw (by decide +kernel) ?_; conv => whnf) | (refine And.intro ?_ ?_; (focus (first | ((repeat (first | exact trivial | ((conv => whnf); refine And.intro (by first | exact .inr ⟨0, _, _, rfl, rfl, rfl⟩ | exact .inr ⟨1, _, _, rfl, rfl, rfl⟩ | exact .inr ⟨2, _, _, rfl, rfl, rfl⟩ | exact .inr ⟨3, _, _, rfl, rfl, rfl⟩ | assumption) ?_))); done) | ((conv => whnf); first | exact ⟨0, 0, _, _, _, rfl, (Nat.zero_add _).symm, rfl, rfl⟩ | exact ⟨1, 0, _, _, _, rfl, (Nat.zero_add _).symm, rfl, rfl⟩ | exact ⟨2, 0, _, _, _, rfl, (Nat.zero_add _).symm, rfl, rfl⟩ | exact ⟨3, 0, _, _, _, rfl, (Nat.zero_add _).symm, rfl, rfl⟩ | exact ⟨0, _, 0, _, _, rfl, rfl, rfl, rfl⟩ | exact ⟨1, _, 0, _, _, rfl, rfl, rfl, rfl⟩ | exact ⟨2, _, 0, _, _, rfl, rfl, rfl, rfl⟩ | exact ⟨3, _, 0, _, _, rfl, rfl, rfl, rfl⟩))); conv => whnf))
        refine ⟨by rw [bytesV_len, hxl], by decide, ?_⟩
        intro r2 H2 hB2 hN2 hE2
        (conv => whnf); repeat (first | (refine fun (_ : Nat) (_ : _ ≤ _) (_ : _ = none) => ?_; conv => whnf) | (refine drw (by decide +kernel) ?_; conv => whnf) | (refine And.intro ?_ ?_; (focus (first | ((repeat (first | exact trivial | ((conv => whnf); refine And.intro (by first | exact .inr ⟨0, _, _, rfl, rfl, rfl⟩ | exact .inr ⟨1, _, _, rfl, rfl, rfl⟩ | exact .inr ⟨2, _, _, rfl, rfl, rfl⟩ | exact .inr ⟨3, _, _, rfl, rfl, rfl⟩ | assumption) ?_))); done) | ((conv => whnf); first | exact ⟨0, 0, _, _, _, rfl, (Nat.zero_add _).symm, rfl, rfl⟩ | exact ⟨1, 0, _, _, _, rfl, (Nat.zero_add _).symm, rfl, rfl⟩ | exact ⟨2, 0, _, _, _, rfl, (Nat.zero_add _).symm, rfl, rfl⟩ | exact ⟨3, 0, _, _, _, rfl, (Nat.zero_add _).symm, rfl, rfl⟩ | exact ⟨0, _, 0, _, _, rfl, rfl, rfl, rfl⟩ | exact ⟨1, _, 0, _, _, rfl, rfl, rfl, rfl⟩ | exact ⟨2, _, 0, _, _, rfl, rfl, rfl, rfl⟩ | exact ⟨3, _, 0, _, _, rfl, rfl, rfl, rfl⟩))); conv => whnf))
        refine ⟨⟨KnownC.c (by obtain ⟨ar, t1, fr, g1, g2⟩ := f1'; exact ⟨ar, t1, fr, hE2.old _ _ g1, g2⟩) _, trivial⟩, ?_⟩
        conv => whnf
        refine append_new (sz := 256) (by_ := 256) (n := (d.V b').length) (c := (d.V b').length) (m := 1) (vs := bytesV (d.V b').flatten) ((hos.mono (fun r o hr ho => by cases hr; exact hE2.old _ _ (hsub _ _ ho))).rd) (hos.len) (Nat.lt_succ_self _) (bytesV xs) (RdS_one hE2.new (by rw [bytesV_len]; exact hxl)) (by rw [bytesV_len, hxl]) (oneCell_bytes xs) (by decide) (by omega) (List.length_replicate ..) ?_
        intro r3 c3 H3 hB3 hN3 hS3 hos3
        (conv => whnf); repeat (first | (refine fun (_ : Nat) (_ : _ ≤ _) (_ : _ = none) => ?_; conv => whnf) | (refine drw (by decide +kernel) ?_; conv => whnf) | (refine And.intro ?_ ?_; (focus (first | ((repeat (first | exact trivial | ((conv => whnf); refine And.intro (by first | exact .inr ⟨0, _, _, rfl, rfl, rfl⟩ | exact .inr ⟨1, _, _, rfl, rfl, rfl⟩ | exact .inr ⟨2, _, _, rfl, rfl, rfl⟩ | exact .inr ⟨3, _, _, rfl, rfl, rfl⟩ | assumption) ?_))); done) | ((conv => whnf); first | exact ⟨0, 0, _, _, _, rfl, (Nat.zero_add _).symm, rfl, rfl⟩ | exact ⟨1, 0, _, _, _, rfl, (Nat.zero_add _).symm, rfl, rfl⟩ | exact ⟨2, 0, _, _, _, rfl, (Nat.zero_add _).symm, rfl, rfl⟩ | exact ⟨3, 0, _, _, _, rfl, (Nat.zero_add _).symm, rfl, rfl⟩ | exact ⟨0, _, 0, _, _, rfl, rfl, rfl, rfl⟩ | exact ⟨1, _, 0, _, _, rfl, rfl, rfl, rfl⟩ | exact ⟨2, _, 0, _, _, rfl, rfl, rfl, rfl⟩ | exact ⟨3, _, 0, _, _, rfl, rfl, rfl, rfl⟩))); conv => whnf))
        refine ⟨⟨KnownC.c (by obtain ⟨ar, t1, fr, g1, g2⟩ := f1'; exact ⟨ar, t1, fr, hS3 _ _ (hE2.old _ _ g1), g2⟩) _, trivial⟩, ?_⟩
        (conv => whnf); repeat (first | (refine fun (_ : Nat) (_ : _ ≤ _) (_ : _ = none) => ?_; conv => whnf) | (refine drw (by decide +kernel) ?_; conv => whnf) | (refine And.intro ?_ ?_; (focus (first | ((repeat (first | exact trivial | ((conv => whnf); refine And.intro (by first | exact .inr ⟨0, _, _, rfl, rfl, rfl⟩ | exact .inr ⟨1, _, _, rfl, rfl, rfl⟩ | exact .inr ⟨2, _, _, rfl, rfl, rfl⟩ | exact .inr ⟨3, _, _, rfl, rfl, rfl⟩ | assumption) ?_))); done) | ((conv => whnf); first | exact ⟨0, 0, _, _, _, rfl, (Nat.zero_add _).symm, rfl, rfl⟩ | exact ⟨1, 0, _, _, _, rfl, (Nat.zero_add _).symm, rfl, rfl⟩ | exact ⟨2, 0, _, _, _, rfl, (Nat.zero_add _).symm, rfl, rfl⟩ | exact ⟨3, 0, _, _, _, rfl, (Nat.zero_add _).symm, rfl, rfl⟩ | exact ⟨0, _, 0, _, _, rfl, rfl, rfl, rfl⟩ | exact ⟨1, _, 0, _, _, rfl, rfl, rfl, rfl⟩ | exact ⟨2, _, 0, _, _, rfl, rfl, rfl, rfl⟩ | exact ⟨3, _, 0, _, _, rfl, rfl, rfl, rfl⟩))); conv => whnf))
        refine (hmo1.mono (fun o ho => hS3 _ _ (hE2.old _ _ ho))).put (v := slV (some r3) ((d.V b').length + 1) c3) b' (.inl hm) ?_
        intro H4 hk4 hmo4
        (conv => whnf); repeat (first | (refine fun (_ : Nat) (_ : _ ≤ _) (_ : _ = none) => ?_; conv => whnf) | (refine drw (by decide +kernel) ?_; conv => whnf) | (refine And.intro ?_ ?_; (focus (first | ((repeat (first | exact trivial | ((conv => whnf); refine And.intro (by first | exact .inr ⟨0, _, _, rfl, rfl, rfl⟩ | exact .inr ⟨1, _, _, rfl, rfl, rfl⟩ | exact .inr ⟨2, _, _, rfl, rfl, rfl⟩ | exact .inr ⟨3, _, _, rfl, rfl, rfl⟩ | assumption) ?_))); done) | ((conv => whnf); first | exact ⟨0, 0, _, _, _, rfl, (Nat.zero_add _).symm, rfl, rfl⟩ | exact ⟨1, 0, _, _, _, rfl, (Nat.zero_add _).symm, rfl, rfl⟩ | exact ⟨2, 0, _, _, _, rfl, (Nat.zero_add _).symm, rfl, rfl⟩ | exact ⟨3, 0, _, _, _, rfl, (Nat.zero_add _).symm, rfl, rfl⟩ | exact ⟨0, _, 0, _, _, rfl, rfl, rfl, rfl⟩ | exact ⟨1, _, 0, _, _, rfl, rfl, rfl, rfl⟩ | exact ⟨2, _, 0, _, _, rfl, rfl, rfl, rfl⟩ | exact ⟨3, _, 0, _, _, rfl, rfl, rfl, rfl⟩))); conv => whnf))
        refine ⟨⟨KnownC.c (by obtain ⟨ar, t1, fr, g1, g2⟩ := f1'; exact ⟨ar, t1, fr, hk4 _ _ (fun e => by obtain ⟨_, _, g, _⟩ := hmo1; rw [← e, g1] at g; cases g) (hS3 _ _ (hE2.old _ _ g1)), g2⟩) _, trivial⟩, ?_⟩
        (conv => whnf); repeat (first | (refine fun (_ : Nat) (_ : _ ≤ _) (_ : _ = none) => ?_; conv => whnf) | (refine drw (by decide +kernel) ?_; conv => whnf) | (refine And.intro ?_ ?_; (focus (first | ((repeat (first | exact trivial | ((conv => whnf); refine And.intro (by first | exact .inr ⟨0, _, _, rfl, rfl, rfl⟩ | exact .inr ⟨1, _, _, rfl, rfl, rfl⟩ | exact .inr ⟨2, _, _, rfl, rfl, rfl⟩ | exact .inr ⟨3, _, _, rfl, rfl, rfl⟩ | assumption) ?_))); done) | ((conv => whnf); first | exact ⟨0, 0, _, _, _, rfl, (Nat.zero_add _).symm, rfl, rfl⟩ | exact ⟨1, 0, _, _, _, rfl, (Nat.zero_add _).symm, rfl, rfl⟩ | exact ⟨2, 0, _, _, _, rfl, (Nat.zero_add _).symm, rfl, rfl⟩ | exact ⟨3, 0, _, _, _, rfl, (Nat.zero_add _).symm, rfl, rfl⟩ | exact ⟨0, _, 0, _, _, rfl, rfl, rfl, rfl⟩ | exact ⟨1, _, 0, _, _, rfl, rfl, rfl, rfl⟩ | exact ⟨2, _, 0, _, _, rfl, rfl, rfl, rfl⟩ | exact ⟨3, _, 0, _, _, rfl, rfl, rfl, rfl⟩))); conv => whnf))
        refine ⟨?_⟩
        rw [if_pos hb, if_pos rfl]
        exact ⟨rfl, DiskAt.wrote (k := b') hd.ok hd.dom hp hq hm hpq hc hbo hmo hf1 hf2 (by omega) hxl hsm (fun i o ho => hS3 _ _ (hE2.old _ _ (hsub _ _ ho))) (hsub.none (hE2.none hN3)) hos3 hk4 hmo4⟩
      · have hv0 := hf1 k hnone
        (conv => whnf); repeat first | (refine drw (by decide +kernel) ?_; conv => whnf) | (refine fun (_ : Nat) (_ : _ ≤ _) (_ : _ = none) => ?_; conv => whnf)
        (refine VCall.ret (by kernel_rfl) (fun w hs => dgoes_ok w hs hd) ?_ ?_)
        · rintro i hi; exact ⟨hd.dom i hi, .inl hi⟩
        rintro v H1 hk1 hd1 ⟨rfl, hsub⟩
        have f1' : RdC H1 p 1 (.map (some m)) := by obtain ⟨ar, t1, fr, g1, g2⟩ := f1; exact ⟨ar, t1, fr, hsub _ _ g1, g2⟩
        have hmo1 := hmo.mono (fun o => hsub m o)
        have hx1 : RdA H1 b0 off 256 ⟨bytesV xs⟩ := by
          obtain ⟨ar, t1, fr, g1, g2, g3⟩ := (hx.mono hsub).rd
          refine ⟨ar, t1, fr, g1, by omega, ?_⟩
          apply Array.toList_inj.mp
          rw [show off + 256 = off + 256 * 1 from by omega]
          exact g3
        conv => whnf
        refine VDraw.list [(p, 1, [.map (some m)])] [3] (List.range 17) tabH mixH (by kernel_rfl) ⟨KnownC.c f1' _, trivial⟩ ?_
        (conv => whnf); repeat (first | (refine fun (_ : Nat) (_ : _ ≤ _) (_ : _ = none) => ?_; conv => whnf) | (refine drw (by decide +kernel) ?_; conv => whnf) | (refine And.intro ?_ ?_; (focus (first | ((repeat (first | exact trivial | ((conv => whnf); refine And.intro (by first | exact .inr ⟨0, _, _, rfl, rfl, rfl⟩ | exact .inr ⟨1, _, _, rfl, rfl, rfl⟩ | exact .inr ⟨2, _, _, rfl, rfl, rfl⟩ | exact .inr ⟨3, _, _, rfl, rfl, rfl⟩ | assumption) ?_))); done) | ((conv => whnf); first | exact ⟨0, 0, _, _, _, rfl, (Nat.zero_add _).symm, rfl, rfl⟩ | exact ⟨1, 0, _, _, _, rfl, (Nat.zero_add _).symm, rfl, rfl⟩ | exact ⟨2, 0, _, _, _, rfl, (Nat.zero_add _).symm, rfl, rfl⟩ | exact ⟨3, 0, _, _, _, rfl, (Nat.zero_add _).symm, rfl, rfl⟩ | exact ⟨0, _, 0, _, _, rfl, rfl, rfl, rfl⟩ | exact ⟨1, _, 0, _, _, rfl, rfl, rfl, rfl⟩ | exact ⟨2, _, 0, _, _, rfl, rfl, rfl, rfl⟩ | exact ⟨3, _, 0, _, _, rfl, rfl, rfl, rfl⟩))); conv => whnf))
        refine ⟨_, f1', ?_⟩
        (conv => whnf); repeat (first | (refine fun (_ : Nat) (_ : _ ≤ _) (_ : _ = none) => ?_; conv => whnf) | (refine drw (by decide +kernel) ?_; conv => whnf) | (refine And.intro ?_ ?_; (focus (first | ((repeat (first | exact trivial | ((conv => whnf); refine And.intro (by first | exact .inr ⟨0, _, _, rfl, rfl, rfl⟩ | exact .inr ⟨1, _, _, rfl, rfl, rfl⟩ | exact .inr ⟨2, _, _, rfl, rfl, rfl⟩ | exact .inr ⟨3, _, _, rfl, rfl, rfl⟩ | assumption) ?_))); done) | ((conv => whnf); first | exact ⟨0, 0, _, _, _, rfl, (Nat.zero_add _).symm, rfl, rfl⟩ | exact ⟨1, 0, _, _, _, rfl, (Nat.zero_add _).symm, rfl, rfl⟩ | exact ⟨2, 0, _, _, _, rfl, (Nat.zero_add _).symm, rfl, rfl⟩ | exact ⟨3, 0, _, _, _, rfl, (Nat.zero_add _).symm, rfl, rfl⟩ | exact ⟨0, _, 0, _, _, rfl, rfl, rfl, rfl⟩ | exact ⟨1, _, 0, _, _, rfl, rfl, rfl, rfl⟩ | exact ⟨2, _, 0, _, _, rfl, rfl, rfl, rfl⟩ | exact ⟨3, _, 0, _, _, rfl, rfl, rfl, rfl⟩))); conv => whnf))
        refine ⟨by decide, ?_⟩
        (conv => whnf); repeat (first | (refine fun (_ : Nat) (_ : _ ≤ _) (_ : _ = none) => ?_; conv => whnf) | (refine drw (by decide +kernel) ?_; conv => whnf) | (refine And.intro ?_ ?_; (focus (first | ((repeat (first | exact trivial | ((conv => whnf); refine And.intro (by first | exact .inr ⟨0, _, _, rfl, rfl, rfl⟩ | exact .inr ⟨1, _, _, rfl, rfl, rfl⟩ | exact .inr ⟨2, _, _, rfl, rfl, rfl⟩ | exact .inr ⟨3, _, _, rfl, rfl, rfl⟩ | assumption) ?_))); done) | ((conv => whnf); first | exact ⟨0, 0, _, _, _, rfl, (Nat.zero_add _).symm, rfl, rfl⟩ | exact ⟨1, 0, _, _, _, rfl, (Nat.zero_add _).symm, rfl, rfl⟩ | exact ⟨2, 0, _, _, _, rfl, (Nat.zero_add _).symm, rfl, rfl⟩ | exact ⟨3, 0, _, _, _, rfl, (Nat.zero_add _).symm, rfl, rfl⟩ | exact ⟨0, _, 0, _, _, rfl, rfl, rfl, rfl⟩ | exact ⟨1, _, 0, _, _, rfl, rfl, rfl, rfl⟩ | exact ⟨2, _, 0, _, _, rfl, rfl, rfl, rfl⟩ | exact ⟨3, _, 0, _, _, rfl, rfl, rfl, rfl⟩))); conv => whnf))
        refine ⟨by decide, ?_⟩
        (conv => whnf); repeat (first | (refine fun (_ : Nat) (_ : _ ≤ _) (_ : _ = none) => ?_; conv => whnf) | (refine drw (by decide +kernel) ?_; conv => whnf) | (refine And.intro ?_ ?_; (focus (first | ((repeat (first | exact trivial | ((conv => whnf); refine And.intro (by first | exact .inr ⟨0, _, _, rfl, rfl, rfl⟩ | exact .inr ⟨1, _, _, rfl, rfl, rfl⟩ | exact .inr ⟨2, _, _, rfl, rfl, rfl⟩ | exact .inr ⟨3, _, _, rfl, rfl, rfl⟩ | assumption) ?_))); done) | ((conv => whnf); first | exact ⟨0, 0, _, _, _, rfl, (Nat.zero_add _).symm, rfl, rfl⟩ | exact ⟨1, 0, _, _, _, rfl, (Nat.zero_add _).symm, rfl, rfl⟩ | exact ⟨2, 0, _, _, _, rfl, (Nat.zero_add _).symm, rfl, rfl⟩ | exact ⟨3, 0, _, _, _, rfl, (Nat.zero_add _).symm, rfl, rfl⟩ | exact ⟨0, _, 0, _, _, rfl, rfl, rfl, rfl⟩ | exact ⟨1, _, 0, _, _, rfl, rfl, rfl, rfl⟩ | exact ⟨2, _, 0, _, _, rfl, rfl, rfl, rfl⟩ | exact ⟨3, _, 0, _, _, rfl, rfl, rfl, rfl⟩))); conv => whnf))
        refine ⟨_, hx1, ?_⟩
        (conv => whnf); repeat (first | (refine fun (_ : Nat) (_ : _ ≤ _) (_ : _ = none) => ?_; conv => whnf) | (refine drw (by decide +kernel) ?_; conv => whnf) | (refine And.intro ?_ ?_; (focus (first | ((repeat (first | exact trivial | ((conv => whnf); refine And.intro (by first | exact .inr ⟨0, _, _, rfl, rfl, rfl⟩ | exact .inr ⟨1, _, _, rfl, rfl, rfl⟩ | exact .inr ⟨2, _, _, rfl, rfl, rfl⟩ | exact .inr ⟨3, _, _, rfl, rfl, rfl⟩ | assumption) ?_))); done) | ((conv => whnf); first | exact ⟨0, 0, _, _, _, rfl, (Nat.zero_add _).symm, rfl, rfl⟩ | exact ⟨1, 0, _, _, _, rfl, (Nat.zero_add _).symm, rfl, rfl⟩ | exact ⟨2, 0, _, _, _, rfl, (Nat.zero_add _).symm, rfl, rfl⟩ | exact ⟨3, 0, _, _, _, rfl, (Nat.zero_add _).symm, rfl, rfl⟩ | exact ⟨0, _, 0, _, _, rfl, rfl, rfl, rfl⟩ | exact ⟨1, _, 0, _, _, rfl, rfl, rfl, rfl⟩ | exact ⟨2, _, 0, _, _, rfl, rfl, rfl, rfl⟩ | exact ⟨3, _, 0, _, _, rfl, rfl, rfl, rfl⟩))); conv => whnf))
        refine ⟨by rw [bytesV_len, hxl], by decide, ?_⟩
        intro r2 H2 hB2 hN2 hE2
        (conv => whnf); repeat (first | (refine fun (_ : Nat) (_ : _ ≤ _) (_ : _ = none) => ?_; conv => whnf) | (refine drw (by decide +kernel) ?_; conv => whnf) | (refine And.intro ?_ ?_; (focus (first | ((repeat (first | exact trivial | ((conv => whnf); refine And.intro (by first | exact .inr ⟨0, _, _, rfl, rfl, rfl⟩ | exact .inr ⟨1, _, _, rfl, rfl, rfl⟩ | exact .inr ⟨2, _, _, rfl, rfl, rfl⟩ | exact .inr ⟨3, _, _, rfl, rfl, rfl⟩ | assumption) ?_))); done) | ((conv => whnf); first | exact ⟨0, 0, _, _, _, rfl, (Nat.zero_add _).symm, rfl, rfl⟩ | exact ⟨1, 0, _, _, _, rfl, (Nat.zero_add _).symm, rfl, rfl⟩ | exact ⟨2, 0, _, _, _, rfl, (Nat.zero_add _).symm, rfl, rfl⟩ | exact ⟨3, 0, _, _, _, rfl, (Nat.zero_add _).symm, rfl, rfl⟩ | exact ⟨0, _, 0, _, _, rfl, rfl, rfl, rfl⟩ | exact ⟨1, _, 0, _, _, rfl, rfl, rfl, rfl⟩ | exact ⟨2, _, 0, _, _, rfl, rfl, rfl, rfl⟩ | exact ⟨3, _, 0, _, _, rfl, rfl, rfl, rfl⟩))); conv => whnf))
        refine ⟨⟨KnownC.c (by obtain ⟨ar, t1, fr, g1, g2⟩ := f1'; exact ⟨ar, t1, fr, hE2.old _ _ g1, g2⟩) _, trivial⟩, ?_⟩
        conv => whnf
        refine append_new (sz := 256) (by_ := 256) (n := 0) (c := 0) (m := 1) (vs := []) ((show RdS _ _ _ (.slice none 0 0) [] from rfl)) (rfl) (Nat.lt_succ_self _) (bytesV xs) (RdS_one hE2.new (by rw [bytesV_len]; exact hxl)) (by rw [bytesV_len, hxl]) (oneCell_bytes xs) (by decide) (by omega) (List.length_replicate ..) ?_
        intro r3 c3 H3 hB3 hN3 hS3 hos3
        (conv => whnf); repeat (first | (refine fun (_ : Nat) (_ : _ ≤ _) (_ : _ = none) => ?_; conv => whnf) | (refine drw (by decide +kernel) ?_; conv => whnf) | (refine And.intro ?_ ?_; (focus (first | ((repeat (first | exact trivial | ((conv => whnf); refine And.intro (by first | exact .inr ⟨0, _, _, rfl, rfl, rfl⟩ | exact .inr ⟨1, _, _, rfl, rfl, rfl⟩ | exact .inr ⟨2, _, _, rfl, rfl, rfl⟩ | exact .inr ⟨3, _, _, rfl, rfl, rfl⟩ | assumption) ?_))); done) | ((conv => whnf); first | exact ⟨0, 0, _, _, _, rfl, (Nat.zero_add _).symm, rfl, rfl⟩ | exact ⟨1, 0, _, _, _, rfl, (Nat.zero_add _).symm, rfl, rfl⟩ | exact ⟨2, 0, _, _, _, rfl, (Nat.zero_add _).symm, rfl, rfl⟩ | exact ⟨3, 0, _, _, _, rfl, (Nat.zero_add _).symm, rfl, rfl⟩ | exact ⟨0, _, 0, _, _, rfl, rfl, rfl, rfl⟩ | exact ⟨1, _, 0, _, _, rfl, rfl, rfl, rfl⟩ | exact ⟨2, _, 0, _, _, rfl, rfl, rfl, rfl⟩ | exact ⟨3, _, 0, _, _, rfl, rfl, rfl, rfl⟩))); conv => whnf))
        refine ⟨⟨KnownC.c (by obtain ⟨ar, t1, fr, g1, g2⟩ := f1'; exact ⟨ar, t1, fr, hS3 _ _ (hE2.old _ _ g1), g2⟩) _, trivial⟩, ?_⟩
        (conv => whnf); repeat (first | (refine fun (_ : Nat) (_ : _ ≤ _) (_ : _ = none) => ?_; conv => whnf) | (refine drw (by decide +kernel) ?_; conv => whnf) | (refine And.intro ?_ ?_; (focus (first | ((repeat (first | exact trivial | ((conv => whnf); refine And.intro (by first | exact .inr ⟨0, _, _, rfl, rfl, rfl⟩ | exact .inr ⟨1, _, _, rfl, rfl, rfl⟩ | exact .inr ⟨2, _, _, rfl, rfl, rfl⟩ | exact .inr ⟨3, _, _, rfl, rfl, rfl⟩ | assumption) ?_))); done) | ((conv => whnf); first | exact ⟨0, 0, _, _, _, rfl, (Nat.zero_add _).symm, rfl, rfl⟩ | exact ⟨1, 0, _, _, _, rfl, (Nat.zero_add _).symm, rfl, rfl⟩ | exact ⟨2, 0, _, _, _, rfl, (Nat.zero_add _).symm, rfl, rfl⟩ | exact ⟨3, 0, _, _, _, rfl, (Nat.zero_add _).symm, rfl, rfl⟩ | exact ⟨0, _, 0, _, _, rfl, rfl, rfl, rfl⟩ | exact ⟨1, _, 0, _, _, rfl, rfl, rfl, rfl⟩ | exact ⟨2, _, 0, _, _, rfl, rfl, rfl, rfl⟩ | exact ⟨3, _, 0, _, _, rfl, rfl, rfl, rfl⟩))); conv => whnf))
        refine (hmo1.mono (fun o ho => hS3 _ _ (hE2.old _ _ ho))).put (v := slV (some r3) (0 + 1) c3) k (.inl hm) ?_
        intro H4 hk4 hmo4
        (conv => whnf); repeat (first | (refine fun (_ : Nat) (_ : _ ≤ _) (_ : _ = none) => ?_; conv => whnf) | (refine drw (by decide +kernel) ?_; conv => whnf) | (refine And.intro ?_ ?_; (focus (first | ((repeat (first | exact trivial | ((conv => whnf); refine And.intro (by first | exact .inr ⟨0, _, _, rfl, rfl, rfl⟩ | exact .inr ⟨1, _, _, rfl, rfl, rfl⟩ | exact .inr ⟨2, _, _, rfl, rfl, rfl⟩ | exact .inr ⟨3, _, _, rfl, rfl, rfl⟩ | assumption) ?_))); done) | ((conv => whnf); first | exact ⟨0, 0, _, _, _, rfl, (Nat.zero_add _).symm, rfl, rfl⟩ | exact ⟨1, 0, _, _, _, rfl, (Nat.zero_add _).symm, rfl, rfl⟩ | exact ⟨2, 0, _, _, _, rfl, (Nat.zero_add _).symm, rfl, rfl⟩ | exact ⟨3, 0, _, _, _, rfl, (Nat.zero_add _).symm, rfl, rfl⟩ | exact ⟨0, _, 0, _, _, rfl, rfl, rfl, rfl⟩ | exact ⟨1, _, 0, _, _, rfl, rfl, rfl, rfl⟩ | exact ⟨2, _, 0, _, _, rfl, rfl, rfl, rfl⟩ | exact ⟨3, _, 0, _, _, rfl, rfl, rfl, rfl⟩))); conv => whnf))
        refine ⟨⟨KnownC.c (by obtain ⟨ar, t1, fr, g1, g2⟩ := f1'; exact ⟨ar, t1, fr, hk4 _ _ (fun e => by obtain ⟨_, _, g, _⟩ := hmo1; rw [← e, g1] at g; cases g) (hS3 _ _ (hE2.old _ _ g1)), g2⟩) _, trivial⟩, ?_⟩
        (conv => whnf); repeat (first | (refine fun (_ : Nat) (_ : _ ≤ _) (_ : _ = none) => ?_; conv => whnf) | (refine drw (by decide +kernel) ?_; conv => whnf) | (refine And.intro ?_ ?_; (focus (first | ((repeat (first | exact trivial | ((conv => whnf); refine And.intro (by first | exact .inr ⟨0, _, _, rfl, rfl, rfl⟩ | exact .inr ⟨1, _, _, rfl, rfl, rfl⟩ | exact .inr ⟨2, _, _, rfl, rfl, rfl⟩ | exact .inr ⟨3, _, _, rfl, rfl, rfl⟩ | assumption) ?_))); done) | ((conv => whnf); first | exact ⟨0, 0, _, _, _, rfl, (Nat.zero_add _).symm, rfl, rfl⟩ | exact ⟨1, 0, _, _, _, rfl, (Nat.zero_add _).symm, rfl, rfl⟩ | exact ⟨2, 0, _, _, _, rfl, (Nat.zero_add _).symm, rfl, rfl⟩ | exact ⟨3, 0, _, _, _, rfl, (Nat.zero_add _).symm, rfl, rfl⟩ | exact ⟨0, _, 0, _, _, rfl, rfl, rfl, rfl⟩ | exact ⟨1, _, 0, _, _, rfl, rfl, rfl, rfl⟩ | exact ⟨2, _, 0, _, _, rfl, rfl, rfl, rfl⟩ | exact ⟨3, _, 0, _, _, rfl, rfl, rfl, rfl⟩))); conv => whnf))
        refine ⟨?_⟩
        rw [if_pos hb, if_pos rfl]
        exact ⟨rfl, DiskAt.wrote (k := k) hd.ok hd.dom hp hq hm hpq hc hbo hmo hf1 hf2 (by omega) hxl hsm (fun i o ho => hS3 _ _ (hE2.old _ _ (hsub _ _ ho))) (hsub.none (hE2.none hN3)) (show OS H3 159 256 (some r3) ((d.V k).length + 1) c3 (bytesV (d.V k).flatten ++ bytesV xs) from by rw [hv0]; exact hos3) hk4 (show MO H4 m (upd f k (some (slV (some r3) ((d.V k).length + 1) c3))) from by rw [hv0]; exact hmo4)⟩
  · (conv => whnf); repeat first | (refine drw (by decide +kernel) ?_; conv => whnf) | (refine fun (_ : Nat) (_ : _ ≤ _) (_ : _ = none) => ?_; conv => whnf)
    (refine VCall.pure_ (by kernel_rfl) (fun w hs => dmay_out hb w hs hd) ?_); (conv => whnf); repeat first | (refine drw (by decide +kernel) ?_; conv => whnf) | (refine fun (_ : Nat) (_ : _ ≤ _) (_ : _ = none) => ?_; conv => whnf)
    exact ⟨by rw [if_neg hb]; exact ⟨rfl, fun i o h => h⟩⟩
end Go.Proofs.YtlkgjffffeohdaaGreat
