/- Volumes: inodes. -/
import Derived.Test.YtlkgjffffeohdaaGreatVol3
set_option linter.unusedVariables false
set_option linter.unusedSimpArgs false
namespace Go.Proofs.YtlkgjffffeohdaaGreat
open Go Go.Eng Go.Proofs

def G.pblk (g : G) (n : Int) : Nat := (2 + n / g.inn * g.gr + 1 + n % g.inn / 4).toNat
def Vs.inode (v : Vs) (n : Int) : Nd × Int := if 0 ≤ n ∧ n < v.s.g.slots then readN (v.st.val (v.s.g.pblk n)) (n % v.s.g.inn % 4) else (nZ, 3)

theorem place_range {g : G} (hg : g.ok) {k : Int} (hk : 0 ≤ k ∧ k < g.slots) {n : Nat} (hn : g.size ≤ n) : ∃ b : Nat, 2 + k / g.inn * g.gr + 1 + k % g.inn / 4 = b ∧ b < n := by
  have hq := (gok_iff g).1 hg
  have hsl : g.slots = g.gs * g.inn := by unfold G.slots; rw [if_pos hg]
  have h1 : 0 ≤ k / g.inn := Int.ediv_nonneg hk.1 (by omega)
  have h2 : k / g.inn < g.gs := Int.ediv_lt_of_lt_mul (by omega) (by rw [← hsl]; exact hk.2)
  have h3 := head_range hg ⟨h1, h2⟩ hn
  have h4 := Int.emod_nonneg k (by omega : g.inn ≠ 0)
  have h5 := Int.emod_lt_of_pos k (by omega : 0 < g.inn)
  exact ⟨(2 + k / g.inn * g.gr + 1 + k % g.inn / 4).toNat, by omega, by omega⟩

theorem vinode_ok {H : HV} {F : Nat → Prop} {p dp : Nat} {v : Vs} (k : Int) (w : World) (hs : ∀ i o, H i = some o → w.heap[i]? = some o) (hv : VolAt H F p dp v) : Calls Tryz.prog 47 #[pV p, iV k] w (Ret H F (fun r H1 => Is (
    r = nVE (v.inode k).1 (v.inode k).2 ∧ ∃ F', VolAt H1 F' p dp v ∧ Grow H F F')) w) := by
  refine fn_ret (args := [pV p, iV k]) tabH Tryz.func47 rfl (by kernel_rfl)  hs ?_
  have hv' := hv
  obtain ⟨Fs, Fo, sp, wp, lb, lc, hi, hF⟩ := hv'
  (conv => whnf); repeat first | (refine drw (by decide +kernel) ?_; conv => whnf) | (refine fun (_ : Nat) (_ : _ ≤ _) (_ : _ = none) => ?_; conv => whnf)
  intro rh H1 hB1 hN1 hE1
  have hv1 := hv.mono (hE1.sub.on F)
  have hi1 := hi.mono (hE1.sub.on Fs) (hE1.sub.on Fo)
  obtain ⟨c1, c4, c5, c6, c0⟩ := hi1.c0
  have ho1 : IO_ H1 rh nZ.is := ⟨_, hE1.new⟩
  have hbk := fun (w : World) hs => vplace_ok (H := H1) k w hs hv1
  have hhd : v.s.g.place k = if 0 ≤ k ∧ k < v.s.g.slots then (2 + k / v.s.g.inn * v.s.g.gr + 1 + k % v.s.g.inn / 4, k % v.s.g.inn % 4, 0) else (0, 0, 3) := by unfold G.place; rw [if_pos hi.ok.1]
  (conv => whnf); repeat first | (refine drw (by decide +kernel) ?_; conv => whnf) | (refine fun (_ : Nat) (_ : _ ≤ _) (_ : _ = none) => ?_; conv => whnf)
  by_cases hk : 0 ≤ k ∧ k < v.s.g.slots
  · obtain ⟨b, hb, hbn⟩ := place_range hi.ok.1 hk hi.ok.2
    rw [hhd, if_pos hk] at hbk
    have ehd : v.inode k = readN (v.st.val b) (k % v.s.g.inn % 4) := by unfold Vs.inode G.pblk; rw [if_pos hk, hb]; rfl
    rw [hb] at hbk
    (refine VCall.pure_ (by kernel_rfl) (fun w hs => hbk w hs) ?_); (conv => whnf); repeat first | (refine drw (by decide +kernel) ?_; conv => whnf) | (refine fun (_ : Nat) (_ : _ ≤ _) (_ : _ = none) => ?_; conv => whnf)
    refine ⟨_, c4, ?_⟩
    (conv => whnf); repeat first | (refine drw (by decide +kernel) ?_; conv => whnf) | (refine fun (_ : Nat) (_ : _ ≤ _) (_ : _ = none) => ?_; conv => whnf)
    (refine VCall.ret (by kernel_rfl) (fun w hs => sread_ok (b := b) w hs hi1.store (by omega)) ?_ ?_)
    · rintro i hi'; exact ⟨hi1.store.dom i hi', .inl ((hF i).2 (.inl hi'))⟩
    rintro r H2 hk2 hd2 ⟨rr, cc, Fs', rfl, hN2, ho2, hst2, hg2, hnr⟩
    obtain ⟨g1, g2⟩ := VolAt.restore (v := v) (st' := v.st) hi1 hF hk2 hst2 hg2 rfl
    have hFr : ¬ F rh := fun h => by obtain ⟨o, ho⟩ := hv.dom rh h; rw [hN1] at ho; cases ho
    have hFs : ¬ Fs rh := fun h => hFr ((hF rh).2 (.inl h))
    (conv => whnf); repeat first | (refine drw (by decide +kernel) ?_; conv => whnf) | (refine fun (_ : Nat) (_ : _ ≤ _) (_ : _ = none) => ?_; conv => whnf)
    (refine VCall.pure_ (by kernel_rfl) (fun w hs => iread_ok (k % v.s.g.inn % 4) w hs (OS.bs ho2) (by decide)) ?_); (conv => whnf); repeat first | (refine drw (by decide +kernel) ?_; conv => whnf) | (refine fun (_ : Nat) (_ : _ ≤ _) (_ : _ = none) => ?_; conv => whnf)
    have ho2h : IO_ H2 rh nZ.is := ho1.mono (fun o ho => hk2 _ o ho hFs)
    rw [← ehd]
    refine ⟨rfl, IO_.store ho2h (v.inode k).1.is 0 (Nat.le_of_ble_eq_true rfl) (.inr hB1) ?_⟩
    intro H3 hk3 ho3
    have ho3 : IO_ H3 rh (v.inode k).1.is := ho3
    (conv => whnf); repeat first | (refine drw (by decide +kernel) ?_; conv => whnf) | (refine fun (_ : Nat) (_ : _ ≤ _) (_ : _ = none) => ?_; conv => whnf)
    refine ⟨_, ho3.all rfl, ?_⟩
    (conv => whnf); repeat first | (refine drw (by decide +kernel) ?_; conv => whnf) | (refine fun (_ : Nat) (_ : _ ≤ _) (_ : _ = none) => ?_; conv => whnf)
    have hg1 : VolAt H3 (fun i => F i ∨ Fs' i) p dp v := g1.mono (fun i o hi ho => hk3 i o (fun e => by
      subst e
      rcases hi with h | h
      · exact hFr h
      · rcases hg2.out _ h with h' | h'
        · exact hFs h'
        · rw [hE1.new] at h'; cases h') ho)
    refine ⟨rfl, _, hg1, fun i hi => ?_, fun i hi => .inl hi⟩
    rcases g2.out i hi with h | h
    · exact .inl h
    · exact .inr (hE1.none h)
  · rw [hhd, if_neg hk] at hbk
    have ehd : v.inode k = (nZ, 3) := by unfold Vs.inode; rw [if_neg hk]
    (refine VCall.pure_ (by kernel_rfl) (fun w hs => hbk w hs) ?_); (conv => whnf); repeat first | (refine drw (by decide +kernel) ?_; conv => whnf) | (refine fun (_ : Nat) (_ : _ ≤ _) (_ : _ = none) => ?_; conv => whnf)
    refine ⟨rfl, IO_.store ho1 nZ.is 0 (Nat.le_of_ble_eq_true rfl) (.inr hB1) ?_⟩
    intro H3 hk3 ho3
    have ho3 : IO_ H3 rh nZ.is := ho3
    (conv => whnf); repeat first | (refine drw (by decide +kernel) ?_; conv => whnf) | (refine fun (_ : Nat) (_ : _ ≤ _) (_ : _ = none) => ?_; conv => whnf)
    refine ⟨_, ho3.all rfl, ?_⟩
    (conv => whnf); repeat first | (refine drw (by decide +kernel) ?_; conv => whnf) | (refine fun (_ : Nat) (_ : _ ≤ _) (_ : _ = none) => ?_; conv => whnf)
    refine ⟨by rw [ehd]; rfl, F, hv1.mono (fun i o hi ho => hk3 i o (fun e => ?_) ho), Grow.refl⟩
    obtain ⟨o', ho'⟩ := hv.dom i hi
    rw [e, hN1] at ho'; cases ho'

theorem vnewid_ok {H : HV} {F : Nat → Prop} {p dp : Nat} {v : Vs} (w : World) (hs : ∀ i o, H i = some o → w.heap[i]? = some o) (hv : VolAt H F p dp v) (hn : 0 ≤ v.next ∧ v.next ≤ 4611686018427387904) : Calls Tryz.prog 53 #[pV p] w (Ret H F (fun r H1 => Is (
    r = .tuple #[iV v.next, iV 0] ∧ VolAt H1 F p dp { v with next := v.next + 1 })) w) := by
  refine fn_ret (args := [pV p]) tabH Tryz.func53 rfl (by kernel_rfl)  hs ?_
  obtain ⟨Fs, Fo, sp, wp, lb, lc, hi, hF⟩ := hv
  obtain ⟨c1, c4, c5, c6, c0⟩ := hi.c0
  have hwp : wp ≠ p := fun e => by have := hi.wcell; rw [e, hi.cell] at this; simp at this
  have hlp : lb ≠ some p := fun e => by
    have := hi.wl; rw [e] at this
    obtain ⟨arr, g, _⟩ := this.out
    rw [hi.cell] at g; simp at g
  have e1 : IntKind.i64.wrap (v.next + 1) = v.next + 1 := wrap64 (by omega)
  have e2 : IntKind.i64.wrap (v.next + 1 - 1) = v.next := by rw [wrap64 (by omega)]; omega
  (conv => whnf); repeat first | (refine drw (by decide +kernel) ?_; conv => whnf) | (refine fun (_ : Nat) (_ : _ ≤ _) (_ : _ = none) => ?_; conv => whnf)
  refine ⟨_, c6, ?_⟩
  (conv => whnf); repeat first | (refine drw (by decide +kernel) ?_; conv => whnf) | (refine fun (_ : Nat) (_ : _ ≤ _) (_ : _ = none) => ?_; conv => whnf)
  refine vif_dec (fun h1 => ?_) (fun h1 => ?_)
  · exact (by omega : False).elim
  (conv => whnf); repeat first | (refine drw (by decide +kernel) ?_; conv => whnf) | (refine fun (_ : Nat) (_ : _ ≤ _) (_ : _ = none) => ?_; conv => whnf)
  refine ⟨_, c6, ?_⟩
  (conv => whnf); repeat first | (refine drw (by decide +kernel) ?_; conv => whnf) | (refine fun (_ : Nat) (_ : _ ≤ _) (_ : _ = none) => ?_; conv => whnf)
  refine ⟨rfl, _, _, _, hi.cell, (by decide : 6 + 1 ≤ 7), .inr (.inl (Nat.zero_le _)), .inl ((hF p).2 (.inr hi.fp)), (fun v hv => by rw [List.mem_singleton.1 hv]; rfl), ?_⟩
  intro H1 hU
  have c6' : RdC H1 p 6 (.int .i64 (IntKind.i64.wrap (v.next + 1))) := ⟨_, _, _, hU.new, rfl⟩
  (conv => whnf); repeat first | (refine drw (by decide +kernel) ?_; conv => whnf) | (refine fun (_ : Nat) (_ : _ ≤ _) (_ : _ = none) => ?_; conv => whnf)
  refine ⟨_, c6', ?_⟩
  (conv => whnf); repeat first | (refine drw (by decide +kernel) ?_; conv => whnf) | (refine fun (_ : Nat) (_ : _ ≤ _) (_ : _ = none) => ?_; conv => whnf)
  rw [e1]
  refine ⟨by rw [e2]; rfl, Fs, Fo, sp, wp, lb, lc, ⟨hi.ok, hi.store.mono (fun i o hs ho => hU.old i o (fun e => hi.sep i hs (e ▸ hi.fp)) ho), fun i hi' => ?_, hi.sep, hi.fp, hi.fw, hi.fl, by rw [← e1]; exact hU.new, hU.old _ _ hwp hi.wcell, hi.wl.mono (fun r o hr ho => hU.old r o (fun e => hlp (by rw [hr, e])) ho)⟩, hF⟩
  obtain ⟨o, ho⟩ := hi.dom i hi'
  by_cases e : i = p
  · subst e; exact ⟨_, hU.new⟩
  · exact ⟨o, hU.old i o e ho⟩
end Go.Proofs.YtlkgjffffeohdaaGreat
