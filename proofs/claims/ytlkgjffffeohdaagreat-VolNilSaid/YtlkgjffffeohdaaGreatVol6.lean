/- Volumes: the walk of Mount. -/
import Derived.Test.YtlkgjffffeohdaaGreatVol5
set_option linter.unusedVariables false
set_option linter.unusedSimpArgs false
namespace Go.Proofs.YtlkgjffffeohdaaGreat
open Go Go.Eng Go.Proofs

theorem head24 (v : Vs) (k : Int) : (v.head k).1.m.length = 24 := by
  unfold Vs.head
  split
  · unfold getH
    split
    · split
      · split
        · exact hdOf_len (by assumption)
        · rfl
      · rfl
    · rfl
  · rfl

theorem headsOk_at {v : Vs} {n : Nat} (h : headsOk v n = true) {k : Nat} (hk : k < n) : (v.head k).2 = 0 ∧ (v.head k).1.no = k := by
  induction n with
  | zero => omega
  | succ n ih =>
    simp only [headsOk, Bool.and_eq_true, decide_eq_true_iff] at h
    by_cases e : k = n
    · subst e; exact h.2
    · exact ih h.1 (by omega)

theorem VolAt.renext {H H' : HV} {F Fs Fo : Nat → Prop} {p sp wp dp : Nat} {lb : Option Nat} {lc : Nat} {v : Vs} {x : Int} (hi : VIn H Fs Fo p sp wp dp lb lc v) (hF : ∀ i, F i ↔ Fs i ∨ Fo i) (hk : ∀ i o, i ≠ p → H i = some o → H' i = some o)
    (hc : H' p = some (.cells #[.int .i64 v.s.gen, .int .i64 v.s.g.gr, .int .i64 v.s.g.inn, .int .i64 v.s.g.gs, pV sp, pV wp, .int .i64 x] 165 (0, 0))) : VolAt H' F p dp { v with next := x } := by
  have hwp : wp ≠ p := fun e => by have := hi.wcell; rw [e, hi.cell] at this; simp at this
  have hlp : lb ≠ some p := fun e => by
    have := hi.wl; rw [e] at this
    obtain ⟨arr, g, _⟩ := this.out
    rw [hi.cell] at g; simp at g
  refine ⟨Fs, Fo, sp, wp, lb, lc, ⟨hi.ok, hi.store.mono (fun i o hs ho => hk i o (fun e => hi.sep i hs (e ▸ hi.fp)) ho), fun i hi' => ?_, hi.sep, hi.fp, hi.fw, hi.fl, hc, hk _ _ hwp hi.wcell, hi.wl.mono (fun r o hr ho => hk r o (fun e => hlp (by rw [hr, e])) ho)⟩, hF⟩
  obtain ⟨o, ho⟩ := hi.dom i hi'
  by_cases e : i = p
  · subst e; exact ⟨_, hc⟩
  · exact ⟨o, hk i o e ho⟩

/-- the state of the first loop -/
structure MX where
  out : Bool
  H : HV
  F : Nat → Prop
  k : Nat

theorem vmount_ok {H : HV} {F : Nat → Prop} {p : Nat} {d : Dk} (w : World) (hs : ∀ i o, H i = some o → w.heap[i]? = some o) (hd : DiskAt H F p d) :
    Calls Tryz.prog 24 #[pV p] w (Ret H F (fun r H1 => Is (
      if mountE d = 0 then ∃ q F', r = .tuple #[pV q, iV 0] ∧ VolAt H1 F' q p (mountV d) ∧ Grow H F F' else r = .tuple #[.pointer none, iV (mountE d)])) w) := by
  refine fn_ret (args := [pV p]) tabH Tryz.func24 rfl (by kernel_rfl)  hs ?_
  have hpos := hd.ok.n
  (conv => whnf); repeat first | (refine drw (by decide +kernel) ?_; conv => whnf) | (refine fun (_ : Nat) (_ : _ ≤ _) (_ : _ = none) => ?_; conv => whnf)
  (refine VCall.pure_ (by kernel_rfl) (fun w hs => dlen_ok w hs hd) ?_); (conv => whnf); repeat first | (refine drw (by decide +kernel) ?_; conv => whnf) | (refine fun (_ : Nat) (_ : _ ≤ _) (_ : _ = none) => ?_; conv => whnf)
  have emax : maxInt (d.n : Int) 1 = (d.n : Int) := by unfold maxInt; split <;> omega
  rw [emax]
  (refine VCall.ret (by kernel_rfl) (fun w hs => popen_ok d.n w hs hd (by omega) (Nat.le_refl _) (by omega)) ?_ ?_)
  · rintro i ⟨⟩
  rintro v H1 hk1 hd1 ⟨sp, Fs, rfl, hst, hg1⟩
  have hS1 : Sub H H1 := fun i o ho => hk1 i o ho (fun h => h)
  have hdk1 := hd.mono (hS1.on F)
  have hFs := grow_new hg1 hst.dom hd1
  (conv => whnf); repeat first | (refine drw (by decide +kernel) ?_; conv => whnf) | (refine fun (_ : Nat) (_ : _ ≤ _) (_ : _ = none) => ?_; conv => whnf)
  (refine VCall.ret (by kernel_rfl) (fun w hs => dread_ok 0 w hs hdk1) ?_ ?_)
  · rintro i ⟨⟩
  rintro v H2 hk2 hd2 ⟨hp2⟩
  rw [if_pos (by omega)] at hp2
  obtain ⟨r2, rfl, hN2, hb2⟩ := hp2
  have hS2 : Sub H1 H2 := fun i o ho => hk2 i o ho (fun h => h)
  have hdk2 := hdk1.mono (hS2.on F)
  (conv => whnf); repeat first | (refine drw (by decide +kernel) ?_; conv => whnf) | (refine fun (_ : Nat) (_ : _ ≤ _) (_ : _ = none) => ?_; conv => whnf)
  (refine VCall.ret (by kernel_rfl) (fun w hs => dread_ok 1 w hs hdk2) ?_ ?_)
  · rintro i ⟨⟩
  rintro v H3 hk3 hd3 ⟨hp3⟩
  have hS3 : Sub H2 H3 := fun i o ho => hk3 i o ho (fun h => h)
  have hdk3 := hdk2.mono (hS3.on F)
  have hst3 := hst.mono ((hS2.on Fs).trans (hS3.on Fs))
  have hbs2 : BS H3 (some ⟨r2, 0, none⟩) 256 256 (d.last 0) := (hb2.mono (fun o => hS3 _ o)).all' (n := 256) (Dk.last_len hd.ok 0) 256 (Nat.le_refl _)
  obtain ⟨a3, n3, c3, e3, rfl, hbs3, hn3⟩ : ∃ a n c e, v = .tuple #[yV a n c, iV e] ∧ BS H3 a n c (blk1 d) ∧ n ≤ 256 := by
    unfold blk1
    by_cases h1 : 1 < d.n
    · rw [if_pos (by omega)] at hp3
      obtain ⟨r3, rfl, hN3, hb3⟩ := hp3
      rw [if_pos h1]
      exact ⟨_, _, _, _, rfl, hb3.all' (n := 256) (Dk.last_len hd.ok 1) 256 (Nat.le_refl _), Nat.le_refl _⟩
    · rw [if_neg (by omega)] at hp3
      rw [if_neg h1]
      exact ⟨_, _, _, _, hp3, BS_nil _, by decide⟩
  (conv => whnf); repeat first | (refine drw (by decide +kernel) ?_; conv => whnf) | (refine fun (_ : Nat) (_ : _ ≤ _) (_ : _ = none) => ?_; conv => whnf)
  (refine VCall.pure_ (by kernel_rfl) (fun w hs => dlen_ok w hs hdk3) ?_); (conv => whnf); repeat first | (refine drw (by decide +kernel) ?_; conv => whnf) | (refine fun (_ : Nat) (_ : _ ≤ _) (_ : _ = none) => ?_; conv => whnf)
  (refine VCall.pure_ (by kernel_rfl) (fun w hs => schoose_ok d.n w hs hbs2 hbs3 (by decide) (by omega)) ?_); (conv => whnf); repeat first | (refine drw (by decide +kernel) ?_; conv => whnf) | (refine fun (_ : Nat) (_ : _ ≤ _) (_ : _ = none) => ?_; conv => whnf)
  have hE0 : mountS d = chooseS (d.last 0) (blk1 d) d.n := rfl
  rw [← hE0]
  by_cases hz : mountS d = sZ
  · have hE : mountE d = 10 := by unfold mountE; rw [if_pos hz]
    have hv : chooseV (mountS d) = .tuple #[sV sZ, iV 0, iV 10] := by unfold chooseV; rw [if_pos hz]
    rw [hv]
    conv => whnf
    intro r0 hB0 hN0
    (conv => whnf); repeat first | (refine drw (by decide +kernel) ?_; conv => whnf) | (refine fun (_ : Nat) (_ : _ ≤ _) (_ : _ = none) => ?_; conv => whnf)
    exact ⟨by rw [hE, if_neg (by decide)]⟩
  · have hv : chooseV (mountS d) = .tuple #[sV (mountS d), iV ((mountS d).gen.tmod 2), iV 0] := by unfold chooseV; rw [if_neg hz]
    rw [hv]
    obtain ⟨hso, hssz⟩ := choose_ok hz
    rw [← hE0] at hso hssz
    have hgk := (gok_iff _).1 hso.2.2
    obtain ⟨s, hsE⟩ : ∃ s, mountS d = s := ⟨_, rfl⟩
    have hm0 : mount0 d = ⟨s, St.new d, [], 0⟩ := by unfold mount0; rw [hsE]
    have hEE : mountE d = if headsOk (mount0 d) s.g.gs.toNat = true ∧ rootOk (mount0 d) = true then 0 else 8 := by unfold mountE; rw [if_neg hz, hsE]
    rw [hsE] at hso hssz hgk ⊢
    conv => whnf
    intro r0 hB0 hN0
    (conv => whnf); repeat first | (refine drw (by decide +kernel) ?_; conv => whnf) | (refine fun (_ : Nat) (_ : _ ≤ _) (_ : _ = none) => ?_; conv => whnf)
    (refine VDraw.held [0] [0] tabH mixH (by kernel_rfl) ?_ ?_); (focus ((repeat (first | exact trivial | ((conv => whnf); refine And.intro (by first | exact .inr ⟨0, _, _, rfl, rfl, rfl⟩ | exact .inr ⟨1, _, _, rfl, rfl, rfl⟩ | exact .inr ⟨2, _, _, rfl, rfl, rfl⟩ | exact .inr ⟨3, _, _, rfl, rfl, rfl⟩ | assumption) ?_))); done)); (conv => whnf); repeat (first | (refine fun (_ : Nat) (_ : _ ≤ _) (_ : _ = none) => ?_; conv => whnf) | (refine drw (by decide +kernel) ?_; conv => whnf) | (refine And.intro ?_ ?_; (focus (first | ((repeat (first | exact trivial | ((conv => whnf); refine And.intro (by first | exact .inr ⟨0, _, _, rfl, rfl, rfl⟩ | exact .inr ⟨1, _, _, rfl, rfl, rfl⟩ | exact .inr ⟨2, _, _, rfl, rfl, rfl⟩ | exact .inr ⟨3, _, _, rfl, rfl, rfl⟩ | assumption) ?_))); done) | ((conv => whnf); first | exact ⟨0, 0, _, _, _, rfl, (Nat.zero_add _).symm, rfl, rfl⟩ | exact ⟨1, 0, _, _, _, rfl, (Nat.zero_add _).symm, rfl, rfl⟩ | exact ⟨2, 0, _, _, _, rfl, (Nat.zero_add _).symm, rfl, rfl⟩ | exact ⟨3, 0, _, _, _, rfl, (Nat.zero_add _).symm, rfl, rfl⟩ | exact ⟨0, _, 0, _, _, rfl, rfl, rfl, rfl⟩ | exact ⟨1, _, 0, _, _, rfl, rfl, rfl, rfl⟩ | exact ⟨2, _, 0, _, _, rfl, rfl, rfl, rfl⟩ | exact ⟨3, _, 0, _, _, rfl, rfl, rfl, rfl⟩))); conv => whnf))
    (refine VCall.ret (by kernel_rfl) (fun w hs => pushnew_ok w hs) ?_ ?_)
    · rintro i ⟨⟩
    rintro v H4 hk4 hd4 ⟨wp, rfl, hN4, hw4⟩
    have hS4 : Sub H3 H4 := fun i o ho => hk4 i o ho (fun h => h)
    (conv => whnf); repeat (first | (refine fun (_ : Nat) (_ : _ ≤ _) (_ : _ = none) => ?_; conv => whnf) | (refine drw (by decide +kernel) ?_; conv => whnf) | (refine And.intro ?_ ?_; (focus (first | ((repeat (first | exact trivial | ((conv => whnf); refine And.intro (by first | exact .inr ⟨0, _, _, rfl, rfl, rfl⟩ | exact .inr ⟨1, _, _, rfl, rfl, rfl⟩ | exact .inr ⟨2, _, _, rfl, rfl, rfl⟩ | exact .inr ⟨3, _, _, rfl, rfl, rfl⟩ | assumption) ?_))); done) | ((conv => whnf); first | exact ⟨0, 0, _, _, _, rfl, (Nat.zero_add _).symm, rfl, rfl⟩ | exact ⟨1, 0, _, _, _, rfl, (Nat.zero_add _).symm, rfl, rfl⟩ | exact ⟨2, 0, _, _, _, rfl, (Nat.zero_add _).symm, rfl, rfl⟩ | exact ⟨3, 0, _, _, _, rfl, (Nat.zero_add _).symm, rfl, rfl⟩ | exact ⟨0, _, 0, _, _, rfl, rfl, rfl, rfl⟩ | exact ⟨1, _, 0, _, _, rfl, rfl, rfl, rfl⟩ | exact ⟨2, _, 0, _, _, rfl, rfl, rfl, rfl⟩ | exact ⟨3, _, 0, _, _, rfl, rfl, rfl, rfl⟩))); conv => whnf))
    rename_i rv hBv hNv
    have hS04 : Sub H H4 := fun i o ho => hS4 _ _ (hS3 _ _ (hS2 _ _ (hS1 _ _ ho)))
    have hst4 := hst3.mono (hS4.on Fs)
    have hFsw : ¬ Fs wp := fun h => by obtain ⟨o, ho⟩ := hst3.dom _ h; rw [hN4] at ho; cases ho
    have hwB : w.heap.size ≤ wp := by
      rcases hd4 _ _ hw4 with ⟨o, ho⟩ | h
      · rw [hN4] at ho; cases ho
      · exact h
    have hNw0 : H wp = none := hS1.none (hS2.none (hS3.none hN4))
    have hNv0 : H rv = none := hS04.none hNv
    have hsd : s.g.size ≤ d.n := hssz
    -- the volume, as soon as it is memory
    have hvol : ∀ H5 : HV, Ext H4 H5 rv (.cells #[.int .i64 s.gen, .int .i64 s.g.gr, .int .i64 s.g.inn, .int .i64 s.g.gs, pV sp, pV wp, .int .i64 0] 165 (0, 0)) → VolAt H5 (fun i => Fs i ∨ (i = rv ∨ i = wp)) rv p (mount0 d) := by
      intro H5 hE5
      rw [hm0]
      refine ⟨Fs, fun i => i = rv ∨ i = wp, sp, wp, none, 0, ⟨⟨hso.2.2, hsd⟩, hst4.mono (hE5.sub.on Fs), ?_, ?_, .inl rfl, .inr rfl, fun r hr => (by cases hr), hE5.new, hE5.old _ _ hw4, OS.nil _ _ _⟩, fun i => Iff.rfl⟩
      · rintro i (rfl | rfl)
        · exact ⟨_, hE5.new⟩
        · exact ⟨_, hE5.old _ _ hw4⟩
      · rintro i hi (rfl | rfl)
        · obtain ⟨o, ho⟩ := hst4.dom _ hi; rw [hNv] at ho; cases ho
        · exact hFsw hi
    refine VLoop.okh (X := MX) (fun x => [(62, .v (iV x.k)), (61, .v (iV s.g.gs)), (10, .p 0 r0 0), (12, .p 1 rv 0), (2, .v (.pointer none)), (3, .v (iV 0))])
      (fun x => match x.out with
        | false => [.mk r0 148 [.v (iV s.gen), .v (iV s.g.gr), .v (iV s.g.inn), .v (iV s.g.gs)], .mk rv 165 [.v (iV s.gen), .v (iV s.g.gr), .v (iV s.g.inn), .v (iV s.g.gs), .v (pV sp), .v (pV wp), .v (.int .i64 0)]]
        | true => [.mk r0 148 [.v (iV s.gen), .v (iV s.g.gr), .v (iV s.g.inn), .v (iV s.g.gs)], .dead])
      (fun x => x.H) (fun x => (x.k : Int) ≤ s.g.gs ∧ headsOk (mount0 d) x.k = true ∧ (x.out = false → x.k = 0 ∧ x.H = H4) ∧ (x.out = true → VolAt x.H x.F rv p (mount0 d) ∧ Grow H F x.F ∧ (∀ i o, H i = some o → ¬ F i → x.H i = some o) ∧ ∀ i, x.F i → F i ∨ w.heap.size ≤ i)) (fun x => s.g.gs.toNat - x.k) tabH (by kernel_rfl)
      (fun x => by cases x.out <;> rfl) (fun x => by cases x.out <;> rfl) ⟨false, H4, F, 0⟩ ⟨by dsimp only; omega, rfl, fun _ => ⟨rfl, rfl⟩, fun h => by cases h⟩ ⟨rfl, rfl, rfl, rfl, rfl, rfl, trivial⟩ rfl rfl ?_
    rintro ⟨xo, Hx, Fx, k⟩ ⟨i1, i2, i3, i4⟩
    dsimp only at i1 i2 i3 i4
    cases xo with
    | false =>
      obtain ⟨hk0, rfl⟩ := i3 rfl
      (conv => whnf); repeat first | (refine drw (by decide +kernel) ?_; conv => whnf) | (refine fun (_ : Nat) (_ : _ ≤ _) (_ : _ = none) => ?_; conv => whnf)
      refine vif_dec (fun h1 => ?_) (fun h1 => ?_)
      · (conv => whnf); repeat first | (refine drw (by decide +kernel) ?_; conv => whnf) | (refine fun (_ : Nat) (_ : _ ≤ _) (_ : _ = none) => ?_; conv => whnf)
        intro H5 hE5
        have hv5 := hvol H5 hE5
        have BC : ∀ j, (fun i => Fs i ∨ (i = rv ∨ i = wp)) j → F j ∨ w.heap.size ≤ j := by
          rintro j (h | rfl | rfl)
          · exact hFs j h
          · exact .inr hBv
          · exact .inr hwB
        have GC : Grow H F (fun i => Fs i ∨ (i = rv ∨ i = wp)) := by
          refine ⟨?_, fun j hj => .inl (hg1.inn j hj)⟩
          rintro j (h | rfl | rfl)
          · exact hg1.out j h
          · exact .inr hNv0
          · exact .inr hNw0
        have KC : ∀ j o, H j = some o → ¬ F j → H5 j = some o := fun j o h _ => hE5.old _ _ (hS04 _ _ h)
        conv => whnf
        (refine VCall.ret (by kernel_rfl) (fun w hs => vhead_ok k w hs hv5) ?_ ?_)
        · rintro j hj; exact ⟨hv5.dom j hj, BC j hj⟩
        rintro v H6 hk6 hd6 ⟨rfl, F6, hv6, hg6⟩
        have h66 := grow_new hg6 hv6.dom hd6
        have hm24 : ((mount0 d).head k).1.m.length = 24 := head24 _ _
        conv => whnf
        intro rh H7 hB7 hN7 hE7
        have hho : HO H7 rh hZ := ⟨_, hE7.new⟩
        (conv => whnf); repeat first | (refine drw (by decide +kernel) ?_; conv => whnf) | (refine fun (_ : Nat) (_ : _ ≤ _) (_ : _ = none) => ?_; conv => whnf)
        refine ⟨by show (hL _).length = 25; simp [hL, bytesV, hm24], HO.put hho (h2 := ((mount0 d).head k).1) (by rw [hm24]; rfl) (.inr hB7) ?_⟩
        intro H8 hk8 ho8
        have hv8 : VolAt H8 F6 rv p (mount0 d) := hv6.mono (fun j o hj ho => hk8 j o (fun e => by rw [e, hN7] at ho; cases ho) (hE7.old _ _ ho))
        (conv => whnf); repeat first | (refine drw (by decide +kernel) ?_; conv => whnf) | (refine fun (_ : Nat) (_ : _ ≤ _) (_ : _ = none) => ?_; conv => whnf)
        refine vif_not (fun h2 => ?_) (fun h2 => ?_)
        · (conv => whnf); repeat first | (refine drw (by decide +kernel) ?_; conv => whnf) | (refine fun (_ : Nat) (_ : _ ≤ _) (_ : _ = none) => ?_; conv => whnf)
          have hE : mountE d = 8 := by
            rw [hEE, if_neg]
            rintro ⟨h, _⟩
            exact h2 (headsOk_at h (by omega)).1
          exact ⟨by rw [hE, if_neg (by decide)]; rfl⟩
        · (conv => whnf); repeat first | (refine drw (by decide +kernel) ?_; conv => whnf) | (refine fun (_ : Nat) (_ : _ ≤ _) (_ : _ = none) => ?_; conv => whnf)
          refine ⟨_, ho8.no, ?_⟩
          (conv => whnf); repeat first | (refine drw (by decide +kernel) ?_; conv => whnf) | (refine fun (_ : Nat) (_ : _ ≤ _) (_ : _ = none) => ?_; conv => whnf)
          refine vif_not (fun h3 => ?_) (fun h3 => ?_)
          · (conv => whnf); repeat first | (refine drw (by decide +kernel) ?_; conv => whnf) | (refine fun (_ : Nat) (_ : _ ≤ _) (_ : _ = none) => ?_; conv => whnf)
            have hE : mountE d = 8 := by
              rw [hEE, if_neg]
              rintro ⟨h, _⟩
              exact h3 (headsOk_at h (by omega)).2
            exact ⟨by rw [hE, if_neg (by decide)]; rfl⟩
          · have ek : IntKind.i64.wrap ((k : Int) + 1) = ((k + 1 : Nat) : Int) := by rw [wrap64 (by omega)]; rfl
            (conv => whnf); repeat first | (refine drw (by decide +kernel) ?_; conv => whnf) | (refine fun (_ : Nat) (_ : _ ≤ _) (_ : _ = none) => ?_; conv => whnf)
            rw [ek]
            refine ⟨⟨true, H8, F6, k + 1⟩, ⟨by dsimp only; omega, ?_, fun h => (by cases h), fun _ => ⟨hv8, ⟨fun j hj => ?_, fun j hj => hg6.inn j (GC.inn j hj)⟩, fun j o hj hf => ?_, fun j hj => ?_⟩⟩, by dsimp only; omega, ⟨rfl, rfl, rfl, rfl, rfl, rfl, trivial⟩, ⟨[], rfl⟩, rfl⟩
            · show (headsOk (mount0 d) k && (decide (((mount0 d).head k).2 = 0) && decide (((mount0 d).head k).1.no = k))) = true
              rw [i2, decide_eq_true h2, decide_eq_true h3]; rfl
            · rcases hg6.out j hj with h | h
              · exact GC.out j h
              · have h : H5 j = none := h
                by_cases hf : F j
                · exact .inl hf
                · right
                  cases hh : H j with
                  | none => rfl
                  | some o => rw [KC j o hh hf] at h; cases h
            · have h1 := KC j o hj hf
              have h2 := hk6 j o h1 (fun h => by
                rcases GC.out j h with h' | h'
                · exact hf h'
                · rw [hj] at h'; cases h')
              exact hk8 j o (fun e => by rw [e, hN7] at h2; cases h2) (hE7.old _ _ h2)
            · rcases h66 j hj with h | h
              · exact BC j h
              · exact .inr h
      · have h1 : ¬ (k : Int) < s.g.gs := h1
        omega
    | true =>
      obtain ⟨VC, GC, KC, BC⟩ := i4 rfl
      (conv => whnf); repeat first | (refine drw (by decide +kernel) ?_; conv => whnf) | (refine fun (_ : Nat) (_ : _ ≤ _) (_ : _ = none) => ?_; conv => whnf)
      refine vif_dec (fun h1 => ?_) (fun h1 => ?_)
      · have h1 : (k : Int) < s.g.gs := h1
        (conv => whnf); repeat first | (refine drw (by decide +kernel) ?_; conv => whnf) | (refine fun (_ : Nat) (_ : _ ≤ _) (_ : _ = none) => ?_; conv => whnf)
        (refine VCall.ret (by kernel_rfl) (fun w hs => vhead_ok k w hs VC) ?_ ?_)
        · rintro j hj; exact ⟨VC.dom j hj, BC j hj⟩
        rintro v H6 hk6 hd6 ⟨rfl, F6, hv6, hg6⟩
        have h66 := grow_new hg6 hv6.dom hd6
        have hm24 : ((mount0 d).head k).1.m.length = 24 := head24 _ _
        conv => whnf
        intro rh H7 hB7 hN7 hE7
        have hho : HO H7 rh hZ := ⟨_, hE7.new⟩
        (conv => whnf); repeat first | (refine drw (by decide +kernel) ?_; conv => whnf) | (refine fun (_ : Nat) (_ : _ ≤ _) (_ : _ = none) => ?_; conv => whnf)
        refine ⟨by show (hL _).length = 25; simp [hL, bytesV, hm24], HO.put hho (h2 := ((mount0 d).head k).1) (by rw [hm24]; rfl) (.inr hB7) ?_⟩
        intro H8 hk8 ho8
        have hv8 : VolAt H8 F6 rv p (mount0 d) := hv6.mono (fun j o hj ho => hk8 j o (fun e => by rw [e, hN7] at ho; cases ho) (hE7.old _ _ ho))
        (conv => whnf); repeat first | (refine drw (by decide +kernel) ?_; conv => whnf) | (refine fun (_ : Nat) (_ : _ ≤ _) (_ : _ = none) => ?_; conv => whnf)
        refine vif_not (fun h2 => ?_) (fun h2 => ?_)
        · (conv => whnf); repeat first | (refine drw (by decide +kernel) ?_; conv => whnf) | (refine fun (_ : Nat) (_ : _ ≤ _) (_ : _ = none) => ?_; conv => whnf)
          have hE : mountE d = 8 := by
            rw [hEE, if_neg]
            rintro ⟨h, _⟩
            exact h2 (headsOk_at h (by omega)).1
          exact ⟨by rw [hE, if_neg (by decide)]; rfl⟩
        · (conv => whnf); repeat first | (refine drw (by decide +kernel) ?_; conv => whnf) | (refine fun (_ : Nat) (_ : _ ≤ _) (_ : _ = none) => ?_; conv => whnf)
          refine ⟨_, ho8.no, ?_⟩
          (conv => whnf); repeat first | (refine drw (by decide +kernel) ?_; conv => whnf) | (refine fun (_ : Nat) (_ : _ ≤ _) (_ : _ = none) => ?_; conv => whnf)
          refine vif_not (fun h3 => ?_) (fun h3 => ?_)
          · (conv => whnf); repeat first | (refine drw (by decide +kernel) ?_; conv => whnf) | (refine fun (_ : Nat) (_ : _ ≤ _) (_ : _ = none) => ?_; conv => whnf)
            have hE : mountE d = 8 := by
              rw [hEE, if_neg]
              rintro ⟨h, _⟩
              exact h3 (headsOk_at h (by omega)).2
            exact ⟨by rw [hE, if_neg (by decide)]; rfl⟩
          · have ek : IntKind.i64.wrap ((k : Int) + 1) = ((k + 1 : Nat) : Int) := by rw [wrap64 (by omega)]; rfl
            (conv => whnf); repeat first | (refine drw (by decide +kernel) ?_; conv => whnf) | (refine fun (_ : Nat) (_ : _ ≤ _) (_ : _ = none) => ?_; conv => whnf)
            rw [ek]
            refine ⟨⟨true, H8, F6, k + 1⟩, ⟨by dsimp only; omega, ?_, fun h => (by cases h), fun _ => ⟨hv8, ⟨fun j hj => ?_, fun j hj => hg6.inn j (GC.inn j hj)⟩, fun j o hj hf => ?_, fun j hj => ?_⟩⟩, by dsimp only; omega, ⟨rfl, rfl, rfl, rfl, rfl, rfl, trivial⟩, ⟨[], rfl⟩, rfl⟩
            · show (headsOk (mount0 d) k && (decide (((mount0 d).head k).2 = 0) && decide (((mount0 d).head k).1.no = k))) = true
              rw [i2, decide_eq_true h2, decide_eq_true h3]; rfl
            · rcases hg6.out j hj with h | h
              · exact GC.out j h
              · have h : Hx j = none := h
                by_cases hf : F j
                · exact .inl hf
                · right
                  cases hh : H j with
                  | none => rfl
                  | some o => rw [KC j o hh hf] at h; cases h
            · have h1 := KC j o hj hf
              have h2 := hk6 j o h1 (fun h => by
                rcases GC.out j h with h' | h'
                · exact hf h'
                · rw [hj] at h'; cases h')
              exact hk8 j o (fun e => by rw [e, hN7] at h2; cases h2) (hE7.old _ _ h2)
            · rcases h66 j hj with h | h
              · exact BC j h
              · exact .inr h
      · have h1 : ¬ (k : Int) < s.g.gs := h1
        have hkk : s.g.gs.toNat = k := by omega
        (conv => whnf); repeat first | (refine drw (by decide +kernel) ?_; conv => whnf) | (refine fun (_ : Nat) (_ : _ ≤ _) (_ : _ = none) => ?_; conv => whnf)
        (refine VCall.ret (by kernel_rfl) (fun w hs => vinode_ok 1 w hs VC) ?_ ?_)
        · rintro j hj; exact ⟨VC.dom j hj, BC j hj⟩
        rintro v H6 hk6 hd6 ⟨rfl, F6, hv6, hg6⟩
        have h66 := grow_new hg6 hv6.dom hd6
        conv => whnf
        intro ri H7 hB7 hN7 hE7
        have hoi : IO_ H7 ri nZ.is := ⟨_, hE7.new⟩
        (conv => whnf); repeat first | (refine drw (by decide +kernel) ?_; conv => whnf) | (refine fun (_ : Nat) (_ : _ ≤ _) (_ : _ = none) => ?_; conv => whnf)
        refine ⟨rfl, IO_.store hoi ((mount0 d).inode 1).1.is 0 (Nat.le_of_ble_eq_true rfl) (.inr hB7) ?_⟩
        intro H8 hk8 ho8
        have ho8 : IO_ H8 ri ((mount0 d).inode 1).1.is := ho8
        have hv8 : VolAt H8 F6 rv p (mount0 d) := hv6.mono (fun j o hj ho => hk8 j o (fun e => by rw [e, hN7] at ho; cases ho) (hE7.old _ _ ho))
        have G6 : Grow H F F6 := ⟨(fun j hj => by
          rcases hg6.out j hj with h | h
          · exact GC.out j h
          · have h : Hx j = none := h
            by_cases hf : F j
            · exact .inl hf
            · right
              cases hh : H j with
              | none => rfl
              | some o => rw [KC j o hh hf] at h; cases h), fun j hj => hg6.inn j (GC.inn j hj)⟩
        have K8 : ∀ j o, H j = some o → ¬ F j → H8 j = some o := fun j o hj hf => by
          have h1 := KC j o hj hf
          have h2 := hk6 j o h1 (fun h => by
            rcases GC.out j h with h' | h'
            · exact hf h'
            · rw [hj] at h'; cases h')
          exact hk8 j o (fun e => by rw [e, hN7] at h2; cases h2) (hE7.old _ _ h2)
        have B6 : ∀ j, F6 j → F j ∨ w.heap.size ≤ j := fun j hj => by
          rcases h66 j hj with h | h
          · exact BC j h
          · exact .inr h
        (conv => whnf); repeat first | (refine drw (by decide +kernel) ?_; conv => whnf) | (refine fun (_ : Nat) (_ : _ ≤ _) (_ : _ = none) => ?_; conv => whnf)
        refine vif_not (fun h2 => ?_) (fun h2 => ?_)
        · (conv => whnf); repeat first | (refine drw (by decide +kernel) ?_; conv => whnf) | (refine fun (_ : Nat) (_ : _ ≤ _) (_ : _ = none) => ?_; conv => whnf)
          have hE : mountE d = 8 := by
            rw [hEE, if_neg]
            rintro ⟨_, h⟩
            unfold rootOk at h
            simp only [Bool.and_eq_true, decide_eq_true_iff] at h
            exact h2 h.1
          exact ⟨by rw [hE, if_neg (by decide)]; rfl⟩
        · (conv => whnf); repeat first | (refine drw (by decide +kernel) ?_; conv => whnf) | (refine fun (_ : Nat) (_ : _ ≤ _) (_ : _ = none) => ?_; conv => whnf)
          refine ⟨_, ndCell ho8 0 rfl, ?_⟩
          (conv => whnf); repeat first | (refine drw (by decide +kernel) ?_; conv => whnf) | (refine fun (_ : Nat) (_ : _ ≤ _) (_ : _ = none) => ?_; conv => whnf)
          refine vif_not (fun h3 => ?_) (fun h3 => ?_)
          · (conv => whnf); repeat first | (refine drw (by decide +kernel) ?_; conv => whnf) | (refine fun (_ : Nat) (_ : _ ≤ _) (_ : _ = none) => ?_; conv => whnf)
            have hE : mountE d = 8 := by
              rw [hEE, if_neg]
              rintro ⟨_, h⟩
              unfold rootOk at h
              simp only [Bool.and_eq_true, decide_eq_true_iff] at h
              exact h3 h.2
            exact ⟨by rw [hE, if_neg (by decide)]; rfl⟩
          · have hE : mountE d = 0 := by
              rw [hEE, if_pos]
              refine ⟨by rw [hkk]; exact i2, ?_⟩
              unfold rootOk
              rw [decide_eq_true h2, Bool.true_and]
              exact decide_eq_true h3
            (conv => whnf); repeat first | (refine drw (by decide +kernel) ?_; conv => whnf) | (refine fun (_ : Nat) (_ : _ ≤ _) (_ : _ = none) => ?_; conv => whnf)
            (refine VCall.pure_ (by kernel_rfl) (fun w hs => gslots_ok s.g w) ?_); (conv => whnf); repeat first | (refine drw (by decide +kernel) ?_; conv => whnf) | (refine fun (_ : Nat) (_ : _ ≤ _) (_ : _ = none) => ?_; conv => whnf)
            have hslg : s.g.slots = s.g.gs * s.g.inn := by unfold G.slots; rw [if_pos hso.2.2]
            have hsl0 : 0 ≤ s.g.slots := by rw [hslg]; exact Int.mul_nonneg (by omega) (by omega)
            have hsl1 : s.g.slots ≤ 1024 := by
              rw [hslg]
              exact Int.le_trans (Int.mul_le_mul (by omega : s.g.gs ≤ 16) (by omega : s.g.inn ≤ 64) (by omega) (by decide)) (by decide)
            refine VLoop.ok (X := HV × (Nat → Prop) × Nat) (fun x => [(95, .v (iV x.2.2)), (94, .v (iV s.g.slots)), (12, .p 1 rv 0), (2, .v (.pointer none)), (3, .v (iV 0))]) (fun x => x.1)
              (fun x => (x.2.2 : Int) ≤ s.g.slots ∧ VolAt x.1 x.2.1 rv p { mount0 d with next := maxId (mount0 d) x.2.2 } ∧ Grow H F x.2.1 ∧ (∀ j o, H j = some o → ¬ F j → x.1 j = some o) ∧ ∀ j, x.2.1 j → F j ∨ w.heap.size ≤ j) (fun x => s.g.slots.toNat - x.2.2) tabH (by kernel_rfl) rfl (fun _ => rfl)
              (H8, F6, 0) ⟨hsl0, by rw [show ({ mount0 d with next := maxId (mount0 d) 0 } : Vs) = mount0 d from rfl]; exact hv8, G6, K8, B6⟩ ⟨rfl, rfl, rfl, rfl, rfl, trivial⟩ rfl ?_
            rintro ⟨Hy, Fy, n⟩ ⟨j1, j2, j3, j4, j5⟩
            dsimp only at j1 j2 j3 j4 j5
            (conv => whnf); repeat first | (refine drw (by decide +kernel) ?_; conv => whnf) | (refine fun (_ : Nat) (_ : _ ≤ _) (_ : _ = none) => ?_; conv => whnf)
            refine vif_dec (fun h4 => ?_) (fun h4 => ?_)
            · have h4 : (n : Int) < s.g.slots := h4
              (conv => whnf); repeat first | (refine drw (by decide +kernel) ?_; conv => whnf) | (refine fun (_ : Nat) (_ : _ ≤ _) (_ : _ = none) => ?_; conv => whnf)
              (refine VCall.ret (by kernel_rfl) (fun w hs => vinode_ok n w hs j2) ?_ ?_)
              · rintro j hj; exact ⟨j2.dom j hj, j5 j hj⟩
              rintro v H9 hk9 hd9 ⟨rfl, F9, hv9, hg9⟩
              have h99 := grow_new hg9 hv9.dom hd9
              have hin : ∀ x, ({ mount0 d with next := x } : Vs).inode n = (mount0 d).inode n := fun x => rfl
              rw [hin]
              conv => whnf
              intro rj H10 hB10 hN10 hE10
              have hoj : IO_ H10 rj nZ.is := ⟨_, hE10.new⟩
              (conv => whnf); repeat first | (refine drw (by decide +kernel) ?_; conv => whnf) | (refine fun (_ : Nat) (_ : _ ≤ _) (_ : _ = none) => ?_; conv => whnf)
              refine ⟨rfl, IO_.store hoj ((mount0 d).inode n).1.is 0 (Nat.le_of_ble_eq_true rfl) (.inr hB10) ?_⟩
              intro H11 hk11 ho11
              have ho11 : IO_ H11 rj ((mount0 d).inode n).1.is := ho11
              have hv11 := hv9.mono (H' := H11) (fun j o hj ho => hk11 j o (fun e => by rw [e, hN10] at ho; cases ho) (hE10.old _ _ ho))
              obtain ⟨Fs2, Fo2, sp2, wp2, lb2, lc2, hi2, hF2⟩ := hv11
              obtain ⟨c1, c4, c5, c6, c0⟩ := hi2.c0
              (conv => whnf); repeat first | (refine drw (by decide +kernel) ?_; conv => whnf) | (refine fun (_ : Nat) (_ : _ ≤ _) (_ : _ = none) => ?_; conv => whnf)
              refine ⟨_, c6, ?_⟩
              (conv => whnf); repeat first | (refine drw (by decide +kernel) ?_; conv => whnf) | (refine fun (_ : Nat) (_ : _ ≤ _) (_ : _ = none) => ?_; conv => whnf)
              refine ⟨_, ndCell ho11 3 rfl, ?_⟩
              (conv => whnf); repeat first | (refine drw (by decide +kernel) ?_; conv => whnf) | (refine fun (_ : Nat) (_ : _ ≤ _) (_ : _ = none) => ?_; conv => whnf)
              refine ⟨rfl, _, _, _, hi2.cell, (by decide : 6 + 1 ≤ 7), .inr (.inl (Nat.zero_le _)), ?_, (fun v hv => by rw [List.mem_singleton.1 hv]; rfl), ?_⟩
              · rcases h99 rv ((hF2 rv).2 (.inr hi2.fp)) with h | h
                · exact j5 rv h
                · exact .inr h
              intro H12 hU
              have en : IntKind.i64.wrap ((n : Int) + 1) = ((n + 1 : Nat) : Int) := by rw [wrap64 (by omega)]; rfl
              (conv => whnf); repeat first | (refine drw (by decide +kernel) ?_; conv => whnf) | (refine fun (_ : Nat) (_ : _ ≤ _) (_ : _ = none) => ?_; conv => whnf)
              rw [en]
              refine ⟨(H12, F9, n + 1), ⟨by dsimp only; omega, ?_, ⟨fun j hj => ?_, fun j hj => hg9.inn j (j3.inn j hj)⟩, fun j o hj hf => ?_, fun j hj => ?_⟩, by dsimp only; omega, ⟨rfl, rfl, rfl, rfl, rfl, trivial⟩, ⟨[], rfl⟩, rfl⟩
              · have := VolAt.renext (v := { mount0 d with next := maxId (mount0 d) n }) hi2 hF2 (x := maxId (mount0 d) (n + 1)) hU.old hU.new
                exact this
              · rcases hg9.out j hj with h | h
                · exact j3.out j h
                · have h : Hy j = none := h
                  by_cases hf : F j
                  · exact .inl hf
                  · right
                    cases hh : H j with
                    | none => rfl
                    | some o => rw [j4 j o hh hf] at h; cases h
              · have q1 := j4 j o hj hf
                have hfy : ¬ Fy j := fun h => by
                  rcases j3.out j h with h' | h'
                  · exact hf h'
                  · rw [hj] at h'; cases h'
                have q2 := hk9 j o q1 hfy
                have q3 := hk11 j o (fun e => by rw [e, hN10] at q2; cases q2) (hE10.old _ _ q2)
                refine hU.old j o (fun e => ?_) q3
                have hrvF : F9 rv := (hF2 rv).2 (.inr hi2.fp)
                rcases hg9.out rv hrvF with h | h
                · exact hfy (e ▸ h)
                · have h : Hy rv = none := h
                  rw [← e, q1] at h; cases h
              · rcases h99 j hj with h | h
                · exact j5 j h
                · exact .inr h
            · have h4 : ¬ (n : Int) < s.g.slots := h4
              have hnn : n = s.g.slots.toNat := by omega
              obtain ⟨Fs2, Fo2, sp2, wp2, lb2, lc2, hi2, hF2⟩ := j2
              obtain ⟨c1, c4, c5, c6, c0⟩ := hi2.c0
              have hms := maxId_small (mount0 d) n
              (conv => whnf); repeat first | (refine drw (by decide +kernel) ?_; conv => whnf) | (refine fun (_ : Nat) (_ : _ ≤ _) (_ : _ = none) => ?_; conv => whnf)
              refine ⟨_, c6, ?_⟩
              (conv => whnf); repeat first | (refine drw (by decide +kernel) ?_; conv => whnf) | (refine fun (_ : Nat) (_ : _ ≤ _) (_ : _ = none) => ?_; conv => whnf)
              refine ⟨rfl, _, _, _, hi2.cell, (by decide : 6 + 1 ≤ 7), .inr (.inl (Nat.zero_le _)), j5 rv ((hF2 rv).2 (.inr hi2.fp)), (fun v hv => by rw [List.mem_singleton.1 hv]; rfl), ?_⟩
              intro H12 hU
              (conv => whnf); repeat first | (refine drw (by decide +kernel) ?_; conv => whnf) | (refine fun (_ : Nat) (_ : _ ≤ _) (_ : _ = none) => ?_; conv => whnf)
              refine ⟨?_⟩
              rw [if_pos hE]
              refine ⟨rv, Fy, rfl, ?_, j3⟩
              have ew : IntKind.i64.wrap (maxId (mount0 d) n + 1) = maxId (mount0 d) n + 1 := wrap64 (by omega)
              have := VolAt.renext (v := { mount0 d with next := maxId (mount0 d) n }) hi2 hF2 (x := maxId (mount0 d) n + 1) hU.old (by rw [← ew]; exact hU.new)
              have em : mountV d = { mount0 d with next := maxId (mount0 d) n + 1 } := by unfold mountV; rw [hsE, hnn]
              rw [em]
              exact this
end Go.Proofs.YtlkgjffffeohdaaGreat
