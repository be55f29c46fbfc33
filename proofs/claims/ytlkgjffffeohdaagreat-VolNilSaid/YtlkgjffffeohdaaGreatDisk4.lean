/- Disks: flush, all bytes. -/
import Derived.Test.YtlkgjffffeohdaaGreatDisk3
set_option linter.unusedVariables false
set_option linter.unusedSimpArgs false
namespace Go.Proofs.YtlkgjffffeohdaaGreat
open Go Go.Eng Go.Proofs

theorem DiskAt.store {H : HV} {F : Nat → Prop} {p q m : Nat} {d : Dk} {B : Nat} {M : Nat → Prop} {K : HV → Prop} (h : DiskAt H F p d) (hq : RdC H p 0 (.slice (some ⟨q, 0, none⟩) d.n d.n)) (hm : RdC H p 1 (.map (some m))) {b : Nat} (hb : b < d.n) {xs : List UInt8} (hx : xs.length = 256) (hM : ∀ i, F i → M i ∨ B ≤ i)
    (hK : ∀ H', (∀ i o, i ≠ q → H i = some o → H' i = some o) → F q → RdC H' p 0 (.slice (some ⟨q, 0, none⟩) d.n d.n) → RdC H' p 1 (.map (some m)) → DiskAt H' F p ⟨d.n, upd d.S b xs, d.V⟩ → K H') : extStore B M H q (0 + (b : Int).toNat * 256) (bytesV xs) K := by
  obtain ⟨q', m', f, hp, hq', hm', hpq, ⟨ty, hc⟩, hbo, hmo, hf1, hf2⟩ := h.out
  have e1 : q' = q := by
    obtain ⟨arr, t, fr, g1, g2⟩ := hq
    rw [hc] at g1; cases g1
    simpa using g2
  subst e1
  have e2 : m' = m := by
    obtain ⟨arr, t, fr, g1, g2⟩ := hm
    rw [hc] at g1; cases g1
    simpa using g2
  subst e2
  have eo : 0 + (b : Int).toNat * 256 = 256 * b := by (show 0 + b * 256 = 256 * b; omega)
  rw [eo]
  obtain ⟨es, ec, hem, _⟩ := id hmo
  have hqm : q' ≠ m' := fun e => by obtain ⟨_, _, h, _⟩ := hbo; rw [← e, h] at hem; cases hem
  refine BO.store hbo xs (256 * b) (by rw [hx, flat_length h.ok.s]; omega) (hM _ hq') (fun H' hk hb' => ?_)
  rw [flat_splice h.ok.s hx d.n hb] at hb'
  have hc' := hk _ _ hpq hc
  refine hK H' hk hq' ⟨_, ty, _, hc', rfl⟩ ⟨_, ty, _, hc', rfl⟩ ⟨⟨h.ok.n, fun i => ?_, h.ok.v, h.ok.o⟩, fun i hi => ?_, q', m', f, hp, hq', hm', hpq, ⟨ty, hc'⟩, hb', hmo.mono (fun o => hk _ o (fun e => hqm e.symm)), hf1, fun k v hkv => ?_⟩
  · by_cases e : i = b
    · subst e; show (upd d.S i xs i).length = _; rw [upd_self]; exact hx
    · show (upd d.S b xs i).length = _; rw [upd_ne _ _ _ e]; exact h.ok.s i
  · obtain ⟨o, ho⟩ := h.dom i hi
    by_cases e : i = q'
    · subst e; obtain ⟨_, _, g, _⟩ := hb'; exact ⟨_, g⟩
    · exact ⟨o, hk i o e ho⟩
  · obtain ⟨b', g1, g2, g3⟩ := hf2 k v hkv
    exact ⟨b', g1, g2, g3.mono (fun i o _ _ h2 _ ho => hk i o h2 ho) (fun _ h => h)⟩

def inOpen (d : Dk) (k : Nat) : Dk := ⟨d.n, fun i => if (i : Int) ∈ d.open.take k then d.last i else d.S i, d.V⟩

theorem inOpen_step (d : Dk) (k b : Nat) (hk : k < d.open.length) (hb : d.open.getD k 0 = b) : (⟨d.n, upd (inOpen d k).S b (d.last b), d.V⟩ : Dk) = inOpen d (k + 1) := by
  unfold inOpen
  congr 1
  funext i
  rw [List.take_succ_eq_append_getElem hk]
  have hg : d.open[k] = (b : Int) := by rw [← hb]; simp [List.getD, List.getElem?_eq_getElem hk]
  simp only [List.mem_append, List.mem_singleton, hg]
  by_cases e : i = b
  · subst e; rw [upd_self, if_pos (.inr rfl)]
  · rw [upd_ne _ _ _ e]
    by_cases h : (i : Int) ∈ d.open.take k
    · rw [if_pos h, if_pos (.inl h)]
    · rw [if_neg h, if_neg (by rintro (h' | h'); exact h h'; exact e (by omega))]

theorem inOpen_last (d : Dk) (ok : d.Ok) (k b : Nat) : (inOpen d k).last b = d.last b := by
  show ((d.V b).getLast?).getD (if (b : Int) ∈ d.open.take k then d.last b else d.S b) = d.last b
  split
  · unfold Dk.last
    cases h : (d.V b).getLast? <;> rfl
  · rfl

theorem inOpen_all (d : Dk) (ok : d.Ok) : (inOpen d d.open.length).S = d.last := by
  funext i
  show (if (i : Int) ∈ d.open.take d.open.length then d.last i else d.S i) = d.last i
  rw [List.take_length]
  split
  · rfl
  · rename_i h
    rw [Dk.open_mem ok] at h
    have : d.V i = [] := Classical.byContradiction fun hv => h ⟨i, rfl, hv⟩
    unfold Dk.last; rw [this]; rfl

theorem DiskAt.cleared {H H' : HV} {F : Nat → Prop} {p m : Nat} {d : Dk} (h : DiskAt H F p d) (hS : d.S = d.last) (hm : RdC H p 1 (.map (some m))) (hk : ∀ i o, i ≠ m → H i = some o → H' i = some o) (hmo' : MO H' m (fun _ => none)) : DiskAt H' F p d.flush := by
  obtain ⟨q, m', f, hp, hq, hm', hpq, ⟨ty, hc⟩, hbo, hmo, hf1, hf2⟩ := h.out
  have e2 : m' = m := by
    obtain ⟨arr, t, fr, g1, g2⟩ := hm
    rw [hc] at g1; cases g1
    simpa using g2
  subst e2
  obtain ⟨es, ec, hem, _⟩ := id hmo
  have hqm : q ≠ m' := fun e => by obtain ⟨_, _, h, _⟩ := hbo; rw [← e, h] at hem; cases hem
  have hpm : p ≠ m' := fun e => by rw [← e, hc] at hem; cases hem
  refine ⟨h.ok.flush, fun i hi => ?_, q, m', _, hp, hq, hm', hpq, ⟨ty, hk _ _ hpm hc⟩, ?_, hmo', fun _ _ => rfl, fun k v hv => by cases hv⟩
  · obtain ⟨o, ho⟩ := h.dom i hi
    by_cases e : i = m'
    · subst e; obtain ⟨_, _, g, _⟩ := hmo'; exact ⟨_, g⟩
    · exact ⟨o, hk i o e ho⟩
  · show BO H' q (flat d.last d.n)
    rw [← hS]; exact hbo.mono (fun o => hk _ o hqm)

theorem dflush_ok {H : HV} {F : Nat → Prop} {p : Nat} {d : Dk} (w : World) (hs : ∀ i o, H i = some o → w.heap[i]? = some o) (hd : DiskAt H F p d) : Calls Tryz.prog 87 #[pV p] w (Ret H F (fun v H1 => v = iV 0 ∧ DiskAt H1 F p d.flush) w) := by
  refine fn_ret (args := [pV p]) tabH Tryz.func87 rfl (by kernel_rfl)  hs ?_
  have hpos := hd.ok.n
  have hol := d.open_len
  (conv => whnf); repeat first | (refine drw (by decide +kernel) ?_; conv => whnf) | (refine fun (_ : Nat) (_ : _ ≤ _) (_ : _ = none) => ?_; conv => whnf)
  (refine VCall.ret (by kernel_rfl) (fun w hs => dgoes_ok w hs hd) ?_ ?_)
  · rintro i hi; exact ⟨hd.dom i hi, .inl hi⟩
  rintro v H1 hk1 hd1 ⟨rfl, hsub⟩
  have hdk1 := hd.mono (hsub.on F)
  (conv => whnf); repeat first | (refine drw (by decide +kernel) ?_; conv => whnf) | (refine fun (_ : Nat) (_ : _ ≤ _) (_ : _ = none) => ?_; conv => whnf)
  (refine VCall.ret (by kernel_rfl) (fun w hs => dopen_ok w hs hdk1) ?_ ?_)
  · rintro i ⟨⟩
  rintro v H2 hk2 hd2 ⟨bl, c, rfl, hos, hnew⟩
  have hS2 : Sub H1 H2 := fun i o ho => hk2 i o ho (fun h => h)
  have hdk2 := hdk1.mono (hS2.on F)
  obtain ⟨q, m, f0, f1, _⟩ := hdk2.cell
  (conv => whnf); repeat first | (refine drw (by decide +kernel) ?_; conv => whnf) | (refine fun (_ : Nat) (_ : _ ≤ _) (_ : _ = none) => ?_; conv => whnf)
  refine VLoop.ok (X := HV × Nat) (fun x => [(15, .v (iV x.2)), (14, .v (iV d.open.length)), (13, .v (slV bl d.open.length c)), (0, .v (pV p)), (2, .v (iV 0))]) (fun x => x.1)
    (fun x => x.2 ≤ d.open.length ∧ DiskAt x.1 F p (inOpen d x.2) ∧ RdC x.1 p 0 (.slice (some ⟨q, 0, none⟩) d.n d.n) ∧ RdC x.1 p 1 (.map (some m)) ∧ OS x.1 3 1 bl d.open.length c (intsV d.open)) (fun x => d.open.length - x.2) tabH (by kernel_rfl) rfl (fun _ => rfl)
    (H2, 0) ⟨Nat.zero_le _, hdk2, f0, f1, hos⟩ ⟨rfl, rfl, rfl, rfl, rfl, trivial⟩ rfl ?_
  rintro ⟨Hx, k⟩ ⟨i1, i2, i3, i4, i5⟩
  dsimp only at i1 i2 i3 i4 i5
  (conv => whnf); repeat first | (refine drw (by decide +kernel) ?_; conv => whnf) | (refine fun (_ : Nat) (_ : _ ≤ _) (_ : _ = none) => ?_; conv => whnf)
  refine vif_dec (fun h1 => ?_) (fun h1 => ?_)
  · have hk : k < d.open.length := by omega
    obtain ⟨b, hb, hbv⟩ := (Dk.open_mem hd.ok (d.open.getD k 0)).1 (by simp [List.getD, List.getElem?_eq_getElem hk])
    have hbn : b < d.n := Classical.byContradiction fun h => hbv (hd.ok.o b (by omega))
    obtain ⟨rl, rfl⟩ := i5.zero_le (by omega)
    have hcell : RdC Hx rl (0 + (k : Int).toNat * 1) (iV b) := by
      have e : 0 + (k : Int).toNat * 1 = k := by simp
      rw [e]
      obtain ⟨arr, g1, g2, g3⟩ := i5.out
      refine ⟨arr, _, _, g1, ?_⟩
      have h3 : (intsV d.open)[k]? = some (iV b) := by rw [← hb]; simp [intsV, iV, List.getD, List.getElem?_eq_getElem hk]
      rw [g3, Nat.mul_one, List.getElem?_take_of_lt hk] at h3
      simpa using h3
    (conv => whnf); repeat first | (refine drw (by decide +kernel) ?_; conv => whnf) | (refine fun (_ : Nat) (_ : _ ≤ _) (_ : _ = none) => ?_; conv => whnf)
    refine ⟨by omega, ?_⟩
    (conv => whnf); repeat first | (refine drw (by decide +kernel) ?_; conv => whnf) | (refine fun (_ : Nat) (_ : _ ≤ _) (_ : _ = none) => ?_; conv => whnf)
    refine ⟨_, hcell, ?_⟩
    conv => whnf
    refine VDraw.list [(p, 0, [.slice (some ⟨q, 0, none⟩) d.n d.n])] [3] (List.range 10) tabH mixH (by kernel_rfl) ⟨KnownC.c i3 _, trivial⟩ ?_
    (conv => whnf); repeat (first | (refine fun (_ : Nat) (_ : _ ≤ _) (_ : _ = none) => ?_; conv => whnf) | (refine drw (by decide +kernel) ?_; conv => whnf) | (refine And.intro ?_ ?_; (focus (first | ((repeat (first | exact trivial | ((conv => whnf); refine And.intro (by first | exact .inr ⟨0, _, _, rfl, rfl, rfl⟩ | exact .inr ⟨1, _, _, rfl, rfl, rfl⟩ | exact .inr ⟨2, _, _, rfl, rfl, rfl⟩ | exact .inr ⟨3, _, _, rfl, rfl, rfl⟩ | assumption) ?_))); done) | ((conv => whnf); first | exact ⟨0, 0, _, _, _, rfl, (Nat.zero_add _).symm, rfl, rfl⟩ | exact ⟨1, 0, _, _, _, rfl, (Nat.zero_add _).symm, rfl, rfl⟩ | exact ⟨2, 0, _, _, _, rfl, (Nat.zero_add _).symm, rfl, rfl⟩ | exact ⟨3, 0, _, _, _, rfl, (Nat.zero_add _).symm, rfl, rfl⟩ | exact ⟨0, _, 0, _, _, rfl, rfl, rfl, rfl⟩ | exact ⟨1, _, 0, _, _, rfl, rfl, rfl, rfl⟩ | exact ⟨2, _, 0, _, _, rfl, rfl, rfl, rfl⟩ | exact ⟨3, _, 0, _, _, rfl, rfl, rfl, rfl⟩))); conv => whnf))
    refine ⟨_, i3, ?_⟩
    (conv => whnf); repeat (first | (refine fun (_ : Nat) (_ : _ ≤ _) (_ : _ = none) => ?_; conv => whnf) | (refine drw (by decide +kernel) ?_; conv => whnf) | (refine And.intro ?_ ?_; (focus (first | ((repeat (first | exact trivial | ((conv => whnf); refine And.intro (by first | exact .inr ⟨0, _, _, rfl, rfl, rfl⟩ | exact .inr ⟨1, _, _, rfl, rfl, rfl⟩ | exact .inr ⟨2, _, _, rfl, rfl, rfl⟩ | exact .inr ⟨3, _, _, rfl, rfl, rfl⟩ | assumption) ?_))); done) | ((conv => whnf); first | exact ⟨0, 0, _, _, _, rfl, (Nat.zero_add _).symm, rfl, rfl⟩ | exact ⟨1, 0, _, _, _, rfl, (Nat.zero_add _).symm, rfl, rfl⟩ | exact ⟨2, 0, _, _, _, rfl, (Nat.zero_add _).symm, rfl, rfl⟩ | exact ⟨3, 0, _, _, _, rfl, (Nat.zero_add _).symm, rfl, rfl⟩ | exact ⟨0, _, 0, _, _, rfl, rfl, rfl, rfl⟩ | exact ⟨1, _, 0, _, _, rfl, rfl, rfl, rfl⟩ | exact ⟨2, _, 0, _, _, rfl, rfl, rfl, rfl⟩ | exact ⟨3, _, 0, _, _, rfl, rfl, rfl, rfl⟩))); conv => whnf))
    (refine VCall.pure_ (by kernel_rfl) (fun w hs => dlast_ok b w hs i2 hbn) ?_); (conv => whnf); repeat first | (refine drw (by decide +kernel) ?_; conv => whnf) | (refine fun (_ : Nat) (_ : _ ≤ _) (_ : _ = none) => ?_; conv => whnf)
    rw [inOpen_last d hd.ok]
    have hlen := Dk.last_len hd.ok b
    refine ⟨⟨KnownC.c i3 _, trivial⟩, ?_⟩
    (conv => whnf); repeat (first | (refine fun (_ : Nat) (_ : _ ≤ _) (_ : _ = none) => ?_; conv => whnf) | (refine drw (by decide +kernel) ?_; conv => whnf) | (refine And.intro ?_ ?_; (focus (first | ((repeat (first | exact trivial | ((conv => whnf); refine And.intro (by first | exact .inr ⟨0, _, _, rfl, rfl, rfl⟩ | exact .inr ⟨1, _, _, rfl, rfl, rfl⟩ | exact .inr ⟨2, _, _, rfl, rfl, rfl⟩ | exact .inr ⟨3, _, _, rfl, rfl, rfl⟩ | assumption) ?_))); done) | ((conv => whnf); first | exact ⟨0, 0, _, _, _, rfl, (Nat.zero_add _).symm, rfl, rfl⟩ | exact ⟨1, 0, _, _, _, rfl, (Nat.zero_add _).symm, rfl, rfl⟩ | exact ⟨2, 0, _, _, _, rfl, (Nat.zero_add _).symm, rfl, rfl⟩ | exact ⟨3, 0, _, _, _, rfl, (Nat.zero_add _).symm, rfl, rfl⟩ | exact ⟨0, _, 0, _, _, rfl, rfl, rfl, rfl⟩ | exact ⟨1, _, 0, _, _, rfl, rfl, rfl, rfl⟩ | exact ⟨2, _, 0, _, _, rfl, rfl, rfl, rfl⟩ | exact ⟨3, _, 0, _, _, rfl, rfl, rfl, rfl⟩))); conv => whnf))
    refine ⟨by omega, ?_⟩
    (conv => whnf); repeat (first | (refine fun (_ : Nat) (_ : _ ≤ _) (_ : _ = none) => ?_; conv => whnf) | (refine drw (by decide +kernel) ?_; conv => whnf) | (refine And.intro ?_ ?_; (focus (first | ((repeat (first | exact trivial | ((conv => whnf); refine And.intro (by first | exact .inr ⟨0, _, _, rfl, rfl, rfl⟩ | exact .inr ⟨1, _, _, rfl, rfl, rfl⟩ | exact .inr ⟨2, _, _, rfl, rfl, rfl⟩ | exact .inr ⟨3, _, _, rfl, rfl, rfl⟩ | assumption) ?_))); done) | ((conv => whnf); first | exact ⟨0, 0, _, _, _, rfl, (Nat.zero_add _).symm, rfl, rfl⟩ | exact ⟨1, 0, _, _, _, rfl, (Nat.zero_add _).symm, rfl, rfl⟩ | exact ⟨2, 0, _, _, _, rfl, (Nat.zero_add _).symm, rfl, rfl⟩ | exact ⟨3, 0, _, _, _, rfl, (Nat.zero_add _).symm, rfl, rfl⟩ | exact ⟨0, _, 0, _, _, rfl, rfl, rfl, rfl⟩ | exact ⟨1, _, 0, _, _, rfl, rfl, rfl, rfl⟩ | exact ⟨2, _, 0, _, _, rfl, rfl, rfl, rfl⟩ | exact ⟨3, _, 0, _, _, rfl, rfl, rfl, rfl⟩))); conv => whnf))
    refine ⟨by show (bytesV _).length = 256; rw [bytesV_len, hlen], ?_⟩
    refine i2.store i3 i4 hbn hlen (fun i hi => .inl hi) ?_
    intro H3 hk3 hFq j3 j4 hdk3
    (conv => whnf); repeat (first | (refine fun (_ : Nat) (_ : _ ≤ _) (_ : _ = none) => ?_; conv => whnf) | (refine drw (by decide +kernel) ?_; conv => whnf) | (refine And.intro ?_ ?_; (focus (first | ((repeat (first | exact trivial | ((conv => whnf); refine And.intro (by first | exact .inr ⟨0, _, _, rfl, rfl, rfl⟩ | exact .inr ⟨1, _, _, rfl, rfl, rfl⟩ | exact .inr ⟨2, _, _, rfl, rfl, rfl⟩ | exact .inr ⟨3, _, _, rfl, rfl, rfl⟩ | assumption) ?_))); done) | ((conv => whnf); first | exact ⟨0, 0, _, _, _, rfl, (Nat.zero_add _).symm, rfl, rfl⟩ | exact ⟨1, 0, _, _, _, rfl, (Nat.zero_add _).symm, rfl, rfl⟩ | exact ⟨2, 0, _, _, _, rfl, (Nat.zero_add _).symm, rfl, rfl⟩ | exact ⟨3, 0, _, _, _, rfl, (Nat.zero_add _).symm, rfl, rfl⟩ | exact ⟨0, _, 0, _, _, rfl, rfl, rfl, rfl⟩ | exact ⟨1, _, 0, _, _, rfl, rfl, rfl, rfl⟩ | exact ⟨2, _, 0, _, _, rfl, rfl, rfl, rfl⟩ | exact ⟨3, _, 0, _, _, rfl, rfl, rfl, rfl⟩))); conv => whnf))
    refine ⟨⟨KnownC.c j3 _, trivial⟩, ?_⟩
    (conv => whnf); repeat (first | (refine fun (_ : Nat) (_ : _ ≤ _) (_ : _ = none) => ?_; conv => whnf) | (refine drw (by decide +kernel) ?_; conv => whnf) | (refine And.intro ?_ ?_; (focus (first | ((repeat (first | exact trivial | ((conv => whnf); refine And.intro (by first | exact .inr ⟨0, _, _, rfl, rfl, rfl⟩ | exact .inr ⟨1, _, _, rfl, rfl, rfl⟩ | exact .inr ⟨2, _, _, rfl, rfl, rfl⟩ | exact .inr ⟨3, _, _, rfl, rfl, rfl⟩ | assumption) ?_))); done) | ((conv => whnf); first | exact ⟨0, 0, _, _, _, rfl, (Nat.zero_add _).symm, rfl, rfl⟩ | exact ⟨1, 0, _, _, _, rfl, (Nat.zero_add _).symm, rfl, rfl⟩ | exact ⟨2, 0, _, _, _, rfl, (Nat.zero_add _).symm, rfl, rfl⟩ | exact ⟨3, 0, _, _, _, rfl, (Nat.zero_add _).symm, rfl, rfl⟩ | exact ⟨0, _, 0, _, _, rfl, rfl, rfl, rfl⟩ | exact ⟨1, _, 0, _, _, rfl, rfl, rfl, rfl⟩ | exact ⟨2, _, 0, _, _, rfl, rfl, rfl, rfl⟩ | exact ⟨3, _, 0, _, _, rfl, rfl, rfl, rfl⟩))); conv => whnf))
    refine ⟨(H3, k + 1), ⟨hk, ?_, j3, j4, ?_⟩, by dsimp only; omega, ⟨?_, rfl, rfl, rfl, rfl, trivial⟩, ⟨[], rfl⟩, rfl⟩
    · rw [← inOpen_step d k b hk hb]; exact hdk3
    · refine i5.mono (fun r o hr ho => hk3 r o (fun e => ?_) ho)
      have hN := hnew r hr
      rw [e] at hN
      obtain ⟨o', ho'⟩ := hdk1.dom q hFq
      rw [hN] at ho'; cases ho'
    · show some (SV.v (.int .i64 (IntKind.wrap .i64 ((k : Int) + 1)))) = _
      rw [wrap64 (by omega)]; rfl
  · have hk : k = d.open.length := by omega
    subst hk
    have hS := inOpen_all d hd.ok
    have hl : (inOpen d d.open.length).S = (inOpen d d.open.length).last := by rw [hS]; funext b; exact (inOpen_last d hd.ok _ b).symm
    obtain ⟨q', m', f, hp, hq, hm', hpq, ⟨ty, hc⟩, hbo, hmo, hf1, hf2⟩ := id i2.out
    have e2 : m' = m := by
      obtain ⟨arr, t, fr, g1, g2⟩ := i4
      rw [hc] at g1; cases g1
      simpa using g2
    subst e2
    (conv => whnf); repeat first | (refine drw (by decide +kernel) ?_; conv => whnf) | (refine fun (_ : Nat) (_ : _ ≤ _) (_ : _ = none) => ?_; conv => whnf)
    refine ⟨_, i4, ?_⟩
    (conv => whnf); repeat first | (refine drw (by decide +kernel) ?_; conv => whnf) | (refine fun (_ : Nat) (_ : _ ≤ _) (_ : _ = none) => ?_; conv => whnf)
    refine hmo.clear (.inl hm') ?_
    intro H4 hk4 hmo4
    (conv => whnf); repeat first | (refine drw (by decide +kernel) ?_; conv => whnf) | (refine fun (_ : Nat) (_ : _ ≤ _) (_ : _ = none) => ?_; conv => whnf)
    refine ⟨rfl, ?_⟩
    have := i2.cleared hl i4 hk4 hmo4
    have e : (inOpen d d.open.length).flush = d.flush := by
      unfold Dk.flush
      congr 1
      funext b
      exact inOpen_last d hd.ok _ b
    rw [e] at this; exact this
end Go.Proofs.YtlkgjffffeohdaaGreat
