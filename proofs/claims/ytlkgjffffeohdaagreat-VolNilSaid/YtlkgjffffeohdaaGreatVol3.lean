/- Volumes: what is read. -/
import Derived.Test.YtlkgjffffeohdaaGreatVol2
set_option linter.unusedVariables false
set_option linter.unusedSimpArgs false
namespace Go.Proofs.YtlkgjffffeohdaaGreat
open Go Go.Eng Go.Proofs

/-- what waits: a change's number, a kind, a number -/
structure Wt where
  id : Int
  k : Int
  n : Int
deriving DecidableEq

def waitsV (l : List Wt) : List Value := l.flatMap (fun x => [.int .i64 x.id, .int .i64 x.k, .int .i64 x.n])

structure Vs where
  s : Sp
  st : St
  work : List Wt
  next : Int

structure VIn (H : HV) (Fs Fo : Nat → Prop) (p sp wp dp : Nat) (lb : Option Nat) (lc : Nat) (v : Vs) : Prop where
  ok : v.s.g.ok ∧ v.s.g.size ≤ v.st.d.n
  store : StoreAt H Fs sp dp v.st
  dom : ∀ i, Fo i → ∃ o, H i = some o
  sep : ∀ i, Fs i → Fo i → False
  fp : Fo p
  fw : Fo wp
  fl : ∀ r, lb = some r → Fo r
  cell : H p = some (.cells #[.int .i64 v.s.gen, .int .i64 v.s.g.gr, .int .i64 v.s.g.inn, .int .i64 v.s.g.gs, pV sp, pV wp, .int .i64 v.next] 165 (0, 0))
  wcell : H wp = some (.cells #[slV lb v.work.length lc] 269 (0, 0))
  wl : OS H 282 3 lb v.work.length lc (waitsV v.work)

def VolAt (H : HV) (F : Nat → Prop) (p dp : Nat) (v : Vs) : Prop := ∃ Fs Fo sp wp lb lc, VIn H Fs Fo p sp wp dp lb lc v ∧ ∀ i, F i ↔ Fs i ∨ Fo i

theorem VolAt.dom {H : HV} {F : Nat → Prop} {p dp : Nat} {v : Vs} (h : VolAt H F p dp v) : ∀ i, F i → ∃ o, H i = some o := by
  obtain ⟨Fs, Fo, sp, wp, lb, lc, hi, hF⟩ := h
  intro i hi'
  rcases (hF i).1 hi' with h | h
  · exact hi.store.dom i h
  · exact hi.dom i h

theorem VIn.mono {H H' : HV} {Fs Fo : Nat → Prop} {p sp wp dp : Nat} {lb : Option Nat} {lc : Nat} {v : Vs} (h : VIn H Fs Fo p sp wp dp lb lc v) (hs : On Fs H H') (ho : On Fo H H') : VIn H' Fs Fo p sp wp dp lb lc v :=
  ⟨h.ok, h.store.mono hs, fun i hi => by obtain ⟨o, hh⟩ := h.dom i hi; exact ⟨o, ho _ _ hi hh⟩, h.sep, h.fp, h.fw, h.fl, ho _ _ h.fp h.cell, ho _ _ h.fw h.wcell, h.wl.mono (fun r o hr hh => ho _ _ (h.fl r hr) hh)⟩

theorem VolAt.mono {H H' : HV} {F : Nat → Prop} {p dp : Nat} {v : Vs} (h : VolAt H F p dp v) (hs : On F H H') : VolAt H' F p dp v := by
  obtain ⟨Fs, Fo, sp, wp, lb, lc, hi, hF⟩ := h
  exact ⟨Fs, Fo, sp, wp, lb, lc, hi.mono (hs.sub (fun i h => (hF i).2 (.inl h))) (hs.sub (fun i h => (hF i).2 (.inr h))), hF⟩

theorem VIn.c0 {H : HV} {Fs Fo : Nat → Prop} {p sp wp dp : Nat} {lb : Option Nat} {lc : Nat} {v : Vs} (h : VIn H Fs Fo p sp wp dp lb lc v) :
    RdA H p 1 3 ⟨[.int .i64 v.s.g.gr, .int .i64 v.s.g.inn, .int .i64 v.s.g.gs]⟩ ∧ RdC H p 4 (pV sp) ∧ RdC H p 5 (pV wp) ∧ RdC H p 6 (.int .i64 v.next) ∧ RdC H p 0 (.int .i64 v.s.gen) :=
  ⟨⟨_, _, _, h.cell, (by decide : 1 + 3 ≤ 7), rfl⟩, ⟨_, _, _, h.cell, rfl⟩, ⟨_, _, _, h.cell, rfl⟩, ⟨_, _, _, h.cell, rfl⟩, ⟨_, _, _, h.cell, rfl⟩⟩

/-- another store within the volume -/
theorem VolAt.restore {H H' : HV} {F Fs Fo Fs' : Nat → Prop} {p sp wp dp : Nat} {lb : Option Nat} {lc : Nat} {v : Vs} {st' : St} (h : VIn H Fs Fo p sp wp dp lb lc v) (hF : ∀ i, F i ↔ Fs i ∨ Fo i) (hk : ∀ i o, H i = some o → ¬ Fs i → H' i = some o) (hs : StoreAt H' Fs' sp dp st') (hg : Grow H Fs Fs') (hn : st'.d.n = v.st.d.n) :
    VolAt H' (fun i => F i ∨ Fs' i) p dp { v with st := st' } ∧ Grow H F (fun i => F i ∨ Fs' i) := by
  have ho : On Fo H H' := fun i o hi hh => hk i o hh (fun hf => h.sep i hf hi)
  refine ⟨⟨Fs', Fo, sp, wp, lb, lc, ⟨⟨h.ok.1, by show _ ≤ (st'.d.n : Int); rw [hn]; exact h.ok.2⟩, hs, fun i hi => by obtain ⟨o, hh⟩ := h.dom i hi; exact ⟨o, ho _ _ hi hh⟩, ?_, h.fp, h.fw, h.fl, ho _ _ h.fp h.cell, ho _ _ h.fw h.wcell, h.wl.mono (fun r o hr hh => ho _ _ (h.fl r hr) hh)⟩, fun i => ?_⟩, fun i hi => ?_, fun i hi => .inl hi⟩
  · intro i hi hi2
    rcases hg.out i hi with h1 | h1
    · exact h.sep i h1 hi2
    · obtain ⟨o, hh⟩ := h.dom i hi2
      rw [h1] at hh; cases hh
  · show (F i ∨ Fs' i) ↔ (Fs' i ∨ Fo i)
    rw [hF i]
    constructor
    · rintro ((h | h) | h)
      · exact .inl (hg.inn i h)
      · exact .inr h
      · exact .inl h
    · rintro (h | h)
      · exact .inr h
      · exact .inl (.inr h)
  · rcases hi with h' | h'
    · exact .inl h'
    · rcases hg.out i h' with h' | h'
      · exact .inl ((hF i).2 (.inl h'))
      · exact .inr h'

theorem vheadb_ok {H : HV} {F : Nat → Prop} {p dp : Nat} {v : Vs} (k : Int) (w : World) (hs : ∀ i o, H i = some o → w.heap[i]? = some o) (hv : VolAt H F p dp v) : Calls Tryz.prog 132 #[pV p, iV k] w (RetP (v2 (v.s.g.head k)) w) := by
  obtain ⟨Fs, Fo, sp, wp, lb, lc, hi, hF⟩ := hv
  obtain ⟨c1, c4, c5, c6, c0⟩ := hi.c0
  refine fn_pure (args := [pV p, iV k]) tabH Tryz.func132 rfl (by kernel_rfl)  hs ?_
  (conv => whnf); repeat first | (refine drw (by decide +kernel) ?_; conv => whnf) | (refine fun (_ : Nat) (_ : _ ≤ _) (_ : _ = none) => ?_; conv => whnf)
  refine ⟨_, c1, ?_⟩
  (conv => whnf); repeat first | (refine drw (by decide +kernel) ?_; conv => whnf) | (refine fun (_ : Nat) (_ : _ ≤ _) (_ : _ = none) => ?_; conv => whnf)
  (refine VCall.pure_ (by kernel_rfl) (fun w hs => ghead_ok v.s.g k w) ?_); (conv => whnf); repeat first | (refine drw (by decide +kernel) ?_; conv => whnf) | (refine fun (_ : Nat) (_ : _ ≤ _) (_ : _ = none) => ?_; conv => whnf)
  rfl

theorem vplace_ok {H : HV} {F : Nat → Prop} {p dp : Nat} {v : Vs} (n : Int) (w : World) (hs : ∀ i o, H i = some o → w.heap[i]? = some o) (hv : VolAt H F p dp v) : Calls Tryz.prog 128 #[pV p, iV n] w (RetP (v3 (v.s.g.place n)) w) := by
  obtain ⟨Fs, Fo, sp, wp, lb, lc, hi, hF⟩ := hv
  obtain ⟨c1, c4, c5, c6, c0⟩ := hi.c0
  refine fn_pure (args := [pV p, iV n]) tabH Tryz.func128 rfl (by kernel_rfl)  hs ?_
  (conv => whnf); repeat first | (refine drw (by decide +kernel) ?_; conv => whnf) | (refine fun (_ : Nat) (_ : _ ≤ _) (_ : _ = none) => ?_; conv => whnf)
  refine ⟨_, c1, ?_⟩
  (conv => whnf); repeat first | (refine drw (by decide +kernel) ?_; conv => whnf) | (refine fun (_ : Nat) (_ : _ ≤ _) (_ : _ = none) => ?_; conv => whnf)
  (refine VCall.pure_ (by kernel_rfl) (fun w hs => gplace_ok v.s.g n w) ?_); (conv => whnf); repeat first | (refine drw (by decide +kernel) ?_; conv => whnf) | (refine fun (_ : Nat) (_ : _ ≤ _) (_ : _ = none) => ?_; conv => whnf)
  rfl

def Vs.head (v : Vs) (k : Int) : Hd × Int := if 0 ≤ k ∧ k < v.s.g.gs then getH v.s.g (v.st.val (2 + k * v.s.g.gr).toNat) else (hZ, 3)

theorem head_range {g : G} (hg : g.ok) {k : Int} (hk : 0 ≤ k ∧ k < g.gs) {n : Nat} (hn : g.size ≤ n) : 0 ≤ 2 + k * g.gr ∧ 2 + k * g.gr + g.gr ≤ n := by
  have hq := (gok_iff g).1 hg
  have hsz : g.size = 2 + g.gs * g.gr := by unfold G.size; rw [if_pos hg]
  have h1 : 0 ≤ k * g.gr := Int.mul_nonneg hk.1 (by omega)
  have h2 : (k + 1) * g.gr ≤ g.gs * g.gr := Int.mul_le_mul_of_nonneg_right (by omega) (by omega)
  rw [Int.add_mul, Int.one_mul] at h2
  omega

theorem vhead_ok {H : HV} {F : Nat → Prop} {p dp : Nat} {v : Vs} (k : Int) (w : World) (hs : ∀ i o, H i = some o → w.heap[i]? = some o) (hv : VolAt H F p dp v) : Calls Tryz.prog 49 #[pV p, iV k] w (Ret H F (fun r H1 => Is (
    r = hVE (v.head k).1 (v.head k).2 ∧ ∃ F', VolAt H1 F' p dp v ∧ Grow H F F')) w) := by
  refine fn_ret (args := [pV p, iV k]) tabH Tryz.func49 rfl (by kernel_rfl)  hs ?_
  have hv' := hv
  obtain ⟨Fs, Fo, sp, wp, lb, lc, hi, hF⟩ := hv'
  (conv => whnf); repeat first | (refine drw (by decide +kernel) ?_; conv => whnf) | (refine fun (_ : Nat) (_ : _ ≤ _) (_ : _ = none) => ?_; conv => whnf)
  intro rh H1 hB1 hN1 hE1
  have hv1 := hv.mono (hE1.sub.on F)
  have hi1 := hi.mono (hE1.sub.on Fs) (hE1.sub.on Fo)
  obtain ⟨c1, c4, c5, c6, c0⟩ := hi1.c0
  have ho1 : HO H1 rh hZ := ⟨_, hE1.new⟩
  have hbk := fun (w : World) hs => vheadb_ok (H := H1) k w hs hv1
  have hhd : v.s.g.head k = if 0 ≤ k ∧ k < v.s.g.gs then (2 + k * v.s.g.gr, 0) else (0, 3) := by unfold G.head; rw [if_pos hi.ok.1]
  (conv => whnf); repeat first | (refine drw (by decide +kernel) ?_; conv => whnf) | (refine fun (_ : Nat) (_ : _ ≤ _) (_ : _ = none) => ?_; conv => whnf)
  by_cases hk : 0 ≤ k ∧ k < v.s.g.gs
  · have hr := head_range hi.ok.1 hk hi.ok.2
    have hk0 := (gok_iff _).1 hi.ok.1
    rw [hhd, if_pos hk] at hbk
    have ehd : v.head k = getH v.s.g (v.st.val (2 + k * v.s.g.gr).toNat) := by unfold Vs.head; rw [if_pos hk]
    obtain ⟨b, hb⟩ : ∃ b : Nat, 2 + k * v.s.g.gr = b := ⟨(2 + k * v.s.g.gr).toNat, by omega⟩
    rw [hb] at hbk ehd
    (refine VCall.pure_ (by kernel_rfl) (fun w hs => hbk w hs) ?_); (conv => whnf); repeat first | (refine drw (by decide +kernel) ?_; conv => whnf) | (refine fun (_ : Nat) (_ : _ ≤ _) (_ : _ = none) => ?_; conv => whnf)
    refine ⟨_, c4, ?_⟩
    (conv => whnf); repeat first | (refine drw (by decide +kernel) ?_; conv => whnf) | (refine fun (_ : Nat) (_ : _ ≤ _) (_ : _ = none) => ?_; conv => whnf)
    (refine VCall.ret (by kernel_rfl) (fun w hs => sread_ok (b := b) w hs hi1.store (by omega)) ?_ ?_)
    · rintro i hi'; exact ⟨hi1.store.dom i hi', .inl ((hF i).2 (.inl hi'))⟩
    rintro r H2 hk2 hd2 ⟨rr, cc, Fs', rfl, hN2, ho2, hst2, hg2, hnr⟩
    obtain ⟨g1, g2⟩ := VolAt.restore (v := v) (st' := v.st) hi1 hF hk2 hst2 hg2 rfl
    have hFr : ¬ F rh := fun h => by obtain ⟨o, ho⟩ := hv.dom rh h; rw [hN1] at ho; cases ho
    have hFs : ¬ Fs rh := fun h => hFr ((hF rh).2 (.inl h))
    have c1' : RdA H2 p 1 3 ⟨[.int .i64 v.s.g.gr, .int .i64 v.s.g.inn, .int .i64 v.s.g.gs]⟩ := ⟨_, _, _, hk2 _ _ hi1.cell (fun h => hi.sep p h hi.fp), (by decide : 1 + 3 ≤ 7), rfl⟩
    (conv => whnf); repeat first | (refine drw (by decide +kernel) ?_; conv => whnf) | (refine fun (_ : Nat) (_ : _ ≤ _) (_ : _ = none) => ?_; conv => whnf)
    refine ⟨_, c1', ?_⟩
    (conv => whnf); repeat first | (refine drw (by decide +kernel) ?_; conv => whnf) | (refine fun (_ : Nat) (_ : _ ≤ _) (_ : _ = none) => ?_; conv => whnf)
    (refine VCall.pure_ (by kernel_rfl) (fun w hs => gget_ok v.s.g w hs (OS.bs ho2) (by decide)) ?_); (conv => whnf); repeat first | (refine drw (by decide +kernel) ?_; conv => whnf) | (refine fun (_ : Nat) (_ : _ ≤ _) (_ : _ = none) => ?_; conv => whnf)
    have ho2h : HO H2 rh hZ := ho1.mono (fun o ho => hk2 _ o ho hFs)
    have hm24 : (getH v.s.g (v.st.val b)).1.m.length = 24 := by
      unfold getH
      split
      · split
        · split
          · exact hdOf_len (by assumption)
          · rfl
        · rfl
      · rfl
    rw [show (v.st.val b) = v.st.val (b : Int).toNat from rfl, ← ehd] at hm24
    rw [show (getH v.s.g (v.st.val b)) = v.head k from ehd.symm]
    refine ⟨by show (hL _).length = 25; simp [hL, bytesV, hm24], HO.put ho2h (by rw [hm24]; rfl) (.inr hB1) ?_⟩
    intro H3 hk3 ho3
    (conv => whnf); repeat first | (refine drw (by decide +kernel) ?_; conv => whnf) | (refine fun (_ : Nat) (_ : _ ≤ _) (_ : _ = none) => ?_; conv => whnf)
    refine ⟨_, ho3.agg hm24, ?_⟩
    (conv => whnf); repeat first | (refine drw (by decide +kernel) ?_; conv => whnf) | (refine fun (_ : Nat) (_ : _ ≤ _) (_ : _ = none) => ?_; conv => whnf)
    have hg1 : VolAt H3 (fun i => F i ∨ Fs' i) p dp v := g1.mono (fun i o hi ho => hk3 i o (fun e => by
      subst e
      rcases hi with h | h
      · exact hFr h
      · rcases hg2.out _ h with h' | h'
        · exact hFs h'
        · rw [hE1.new] at h'; cases h') ho)
    refine ⟨rfl, _, hg1, fun i hi => ?_, fun i hi => .inl hi⟩
    rcases g2.out i hi with h | h
    · exact .inl h
    · exact .inr (hE1.none h)
  · rw [hhd, if_neg hk] at hbk
    have ehd : v.head k = (hZ, 3) := by unfold Vs.head; rw [if_neg hk]
    (refine VCall.pure_ (by kernel_rfl) (fun w hs => hbk w hs) ?_); (conv => whnf); repeat first | (refine drw (by decide +kernel) ?_; conv => whnf) | (refine fun (_ : Nat) (_ : _ ≤ _) (_ : _ = none) => ?_; conv => whnf)
    refine ⟨by show (hL hZ).length = 25; rfl, HO.put ho1 (h2 := hZ) rfl (.inr hB1) ?_⟩
    intro H3 hk3 ho3
    (conv => whnf); repeat first | (refine drw (by decide +kernel) ?_; conv => whnf) | (refine fun (_ : Nat) (_ : _ ≤ _) (_ : _ = none) => ?_; conv => whnf)
    refine ⟨_, ho3.agg rfl, ?_⟩
    (conv => whnf); repeat first | (refine drw (by decide +kernel) ?_; conv => whnf) | (refine fun (_ : Nat) (_ : _ ≤ _) (_ : _ = none) => ?_; conv => whnf)
    refine ⟨by rw [ehd]; rfl, F, hv1.mono (fun i o hi ho => hk3 i o (fun e => ?_) ho), Grow.refl⟩
    obtain ⟨o', ho'⟩ := hv.dom i hi
    rw [e, hN1] at ho'; cases ho'
end Go.Proofs.YtlkgjffffeohdaaGreat
