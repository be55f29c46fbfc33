/- Caches: read, lay, pin, write, flush. -/
import Derived.Test.YtlkgjffffeohdaaGreatCache3
set_option linter.unusedVariables false
set_option linter.unusedSimpArgs false
namespace Go.Proofs.YtlkgjffffeohdaaGreat
open Go Go.Eng Go.Proofs

theorem CIn.at {H : HV} {Fd Fo : Nat → Prop} {p dp m most : Nat} {f : Int → Option Value} {bl : Option Nat} {c : Nat} {l : List Int} {d : Dk} {val : Nat → List UInt8} (h : CIn H Fd Fo p dp m most f bl c l d val) {b x : Nat} (hh : f b = some (pV x)) :
    ∃ r cc i, Fo x ∧ H x = some (.cells #[slV (some r) 256 cc, .int .i64 i] 303 (0, 0)) ∧ Fo r ∧ BS H (some ⟨r, 0, none⟩) 256 cc (val b) := by
  obtain ⟨b', e1, e2, e3⟩ := h.buf b _ hh
  have : b' = b := by omega
  subst this
  obtain ⟨x', r, cc, i, q1, q2, q3, q4, q5⟩ := e3.out
  have : x = x' := by simpa [pV] using q1
  subst this
  exact ⟨r, cc, i, q2, q3, q4, q5⟩

/-- another buffer, for one block -/
theorem CIn.setx {H H' : HV} {Fd Fo : Nat → Prop} {p dp m most : Nat} {f : Int → Option Value} {bl : Option Nat} {c : Nat} {l : List Int} {d : Dk} {val : Nat → List UInt8} (h : CIn H Fd Fo p dp m most f bl c l d val) {b x r' cc' : Nat} {i' : Int} {bs : List UInt8} (hh : f b = some (pV x)) (hbl : bs.length = 256)
    (hk : ∀ i o, i ≠ x → H i = some o → H' i = some o) (hx : H' x = some (.cells #[slV (some r') 256 cc', .int .i64 i'] 303 (0, 0))) (hr : BS H' (some ⟨r', 0, none⟩) 256 cc' bs) (hn : Fo r' ∨ ¬ Fd r') : CIn H' Fd (fun i => Fo i ∨ i = r') p dp m most f bl c l d (upd val b bs) := by
  obtain ⟨r, cc, i, q1, q2, q3, q4⟩ := h.at hh
  obtain ⟨es, ec, hem, _⟩ := id h.mo
  have hpx : p ≠ x := fun e => by have := h.cell; rw [e, q2] at this; simp at this
  have hmx : m ≠ x := fun e => by rw [e, q2] at hem; cases hem
  have hlx : bl ≠ some x := fun e => by
    have := h.ls; rw [e] at this
    obtain ⟨arr, g, _⟩ := this.out
    rw [q2] at g; simp at g
  refine ⟨h.disk.mono (fun i o hi ho => hk i o (fun e => h.sep i hi (e ▸ q1)) ho), fun i hi => ?_, fun i hi hi2 => ?_, .inl h.fp, .inl h.fm, fun r hr => .inl (h.fl r hr), hk _ _ hpx h.cell, h.most, h.mo.mono (fun o => hk _ o hmx), h.ls.mono (fun r o hr ho => hk r o (fun e => hlx (by rw [hr, e])) ho), h.nd, h.mem, fun k v hkv => ?_, h.inj, fun b' hb' => ?_, fun b' => ?_⟩
  · rcases hi with hi | rfl
    · obtain ⟨o, ho⟩ := h.dom i hi
      by_cases e : i = x
      · subst e; exact ⟨_, hx⟩
      · exact ⟨o, hk i o e ho⟩
    · obtain ⟨_, _, _, _, g, _⟩ := hr.cell0 (by decide); exact ⟨_, g⟩
  · rcases hi2 with hi2 | rfl
    · exact h.sep i hi hi2
    · rcases hn with hn | hn
      · exact h.sep _ hi hn
      · exact hn hi
  · by_cases e : k = b
    · subst e
      rw [hh] at hkv; cases hkv
      obtain ⟨b', e1, e2, _⟩ := h.buf _ _ hh
      have : b' = b := by omega
      subst this
      refine ⟨b', rfl, e2, ⟨x, r', cc', i', rfl, .inl q1, hx, .inr rfl, ?_⟩⟩
      rw [upd_self]; exact hr
    · obtain ⟨b', e1, e2, e3⟩ := h.buf k v hkv
      refine ⟨b', e1, e2, ?_⟩
      rw [upd_ne _ _ _ (by omega)]
      obtain ⟨y, r2, c2, i2, g1, g2, g3, g4, g5⟩ := e3.out
      have hyx : y ≠ x := fun e' => by
        rw [g1, e'] at hkv
        exact e (h.inj _ _ _ hkv hh)
      refine ⟨y, r2, c2, i2, g1, .inl g2, hk _ _ hyx g3, .inl g4, ?_⟩
      obtain ⟨arr, ty, fr, kk, w1, w2⟩ := g5.cell0 (by decide)
      have hrx : r2 ≠ x := fun e' => by rw [e', q2] at w1; cases w1; simp at w2
      obtain ⟨arr', ty', fr', z1, z2, z3⟩ := g5.rd
      exact ⟨g5.len, g5.le, _, _, _, hk _ _ hrx z1, z2, z3⟩
  · have : b' ≠ b := fun e => by rw [e, hh] at hb'; cases hb'
    rw [upd_ne _ _ _ this]; exact h.out b' hb'
  · by_cases e : b' = b
    · subst e; rw [upd_self]; exact hbl
    · rw [upd_ne _ _ _ e]; exact h.len b'

theorem cmay_in {H : HV} {F : Nat → Prop} {p dp : Nat} {d : Dk} {val : Nat → List UInt8} {a a2 : Option Addr} {k kc n c : Nat} {ns : List Int} {b : Nat} (w : World) (hs : ∀ i o, H i = some o → w.heap[i]? = some o) (hc : CacheAt H F p dp d val)
    (hv : RdS H 1 n (.slice a2 n c) (intsV ns)) (hl : ns.length = n) (hn : n < 4611686018427387904) (hb : b < d.n) (hk : n = 0 ∨ (k : Int) ∈ ns) : Calls Tryz.prog 230 #[pV p, iV b, .slice a k kc, .slice a2 n c] w (RetP (iV 0) w) := by
  have := cmay_ok (a := a) (k := k) (kc := kc) b w hs hc hv hl hn
  unfold codeM at this
  rw [if_pos (by omega), if_neg (by
    rintro ⟨h1, h2⟩
    rcases hk with h | h
    · omega
    · rw [← List.contains_iff_mem, h2] at h; cases h)] at this
  exact this

theorem cread_ok {H : HV} {F : Nat → Prop} {p dp : Nat} {d : Dk} {val : Nat → List UInt8} {b : Nat} (w : World) (hs : ∀ i o, H i = some o → w.heap[i]? = some o) (hc : CacheAt H F p dp d val) (hb : b < d.n) :
    Calls Tryz.prog 168 #[pV p, iV b] w (Ret H F (fun v H1 => Is (∃ r c F', v = .tuple #[slV (some r) 256 c, iV 0] ∧ H r = none ∧ OS H1 5 1 (some r) 256 c (bytesV (val b)) ∧ CacheAt H1 F' p dp d val ∧ Grow H F F' ∧ ¬ F' r)) w) := by
  refine fn_ret (args := [pV p, iV b]) tabH Tryz.func168 rfl (by kernel_rfl)  hs ?_
  have hdom := hc.dom
  (conv => whnf); repeat first | (refine drw (by decide +kernel) ?_; conv => whnf) | (refine fun (_ : Nat) (_ : _ ≤ _) (_ : _ = none) => ?_; conv => whnf)
  (refine VCall.pure_ (by kernel_rfl) (fun w hs => cmay_in (k := 0) w hs hc (ns := []) (n := 0) (c := 0) (a2 := none) rfl rfl (by decide) hb (.inl rfl)) ?_); (conv => whnf); repeat first | (refine drw (by decide +kernel) ?_; conv => whnf) | (refine fun (_ : Nat) (_ : _ ≤ _) (_ : _ = none) => ?_; conv => whnf)
  (refine VCall.ret (by kernel_rfl) (fun w hs => cask_ok w hs hc hb) ?_ ?_)
  · rintro i hi; exact ⟨hdom i hi, .inl hi⟩
  rintro v H1 hk1 hd1 ⟨x, F1, rfl, hc1, hg1, hh1⟩
  have hc1' := hc1
  obtain ⟨Fd, Fo, m, most, f, bl, c, l, hi, hF⟩ := hc1'
  obtain ⟨r, cc, i, q1, q2, q3, q4⟩ := hi.at (hi.held hh1)
  (conv => whnf); repeat first | (refine drw (by decide +kernel) ?_; conv => whnf) | (refine fun (_ : Nat) (_ : _ ≤ _) (_ : _ = none) => ?_; conv => whnf)
  refine ⟨_, (⟨_, _, _, q2, rfl⟩ : RdC H1 x 0 (slV (some r) 256 cc)), ?_⟩
  (conv => whnf); repeat first | (refine drw (by decide +kernel) ?_; conv => whnf) | (refine fun (_ : Nat) (_ : _ ≤ _) (_ : _ = none) => ?_; conv => whnf)
  (refine VCall.ret (by kernel_rfl) (fun w hs => clone_ok w hs q4 (by decide) (by decide)) ?_ ?_)
  · rintro i ⟨⟩
  rintro v H2 hk2 hd2 ⟨r2, c2, rfl, hN2, ho2⟩
  have hS2 : Sub H1 H2 := fun i o ho => hk2 i o ho (fun h => h)
  (conv => whnf); repeat first | (refine drw (by decide +kernel) ?_; conv => whnf) | (refine fun (_ : Nat) (_ : _ ≤ _) (_ : _ = none) => ?_; conv => whnf)
  have hnF : ¬ F1 r2 := fun h => by obtain ⟨o, ho⟩ := hc1.dom r2 h; rw [hN2] at ho; cases ho
  refine ⟨r2, c2, F1, rfl, ?_, ho2, hc1.mono (hS2.on F1), hg1, hnF⟩
  exact kept_none hk1 hN2 (fun h => hnF (hg1.inn _ h))

theorem clay_ok {H : HV} {F : Nat → Prop} {p dp : Nat} {d : Dk} {val : Nat → List UInt8} {b : Nat} {a : Option Addr} {n c : Nat} {bs : List UInt8} (w : World) (hs : ∀ i o, H i = some o → w.heap[i]? = some o) (hc : CacheAt H F p dp d val) (hb : b < d.n) (hx : BS H a 256 c bs) (hxF : ∀ r off, a = some ⟨r, off, none⟩ → ¬ F r) :
    Calls Tryz.prog 219 #[pV p, iV b, yV a 256 c] w (Ret H F (fun v H1 => Is (v = iV 0 ∧ ∃ F', CacheAt H1 F' p dp d (upd val b bs) ∧ Grow H F F')) w) := by
  refine fn_ret (args := [pV p, iV b, yV a 256 c]) tabH Tryz.func219 rfl (by kernel_rfl)  hs ?_
  have hdom := hc.dom
  obtain ⟨ra, off, rfl⟩ := hx.nonempty (by decide)
  (conv => whnf); repeat first | (refine drw (by decide +kernel) ?_; conv => whnf) | (refine fun (_ : Nat) (_ : _ ≤ _) (_ : _ = none) => ?_; conv => whnf)
  refine ⟨by decide, ?_⟩
  intro rs H0 hB0 hN0 hE0
  (conv => whnf); repeat first | (refine drw (by decide +kernel) ?_; conv => whnf) | (refine fun (_ : Nat) (_ : _ ≤ _) (_ : _ = none) => ?_; conv => whnf)
  have hc0 := hc.mono (hE0.sub.on F)
  (refine VCall.pure_ (by kernel_rfl) (fun w hs => cmay_in (k := 256) w hs hc0 (ns := [256]) (RdS_one hE0.new rfl) rfl (by decide) hb (.inr (List.mem_singleton.2 rfl))) ?_); (conv => whnf); repeat first | (refine drw (by decide +kernel) ?_; conv => whnf) | (refine fun (_ : Nat) (_ : _ ≤ _) (_ : _ = none) => ?_; conv => whnf)
  (refine VCall.ret (by kernel_rfl) (fun w hs => cask_ok w hs hc0 hb) ?_ ?_)
  · rintro i hi; exact ⟨hc0.dom i hi, .inl hi⟩
  rintro v H1 hk1 hd1 ⟨x, F1, rfl, hc1, hg1, hh1⟩
  have hc1' := hc1
  obtain ⟨Fd, Fo, m, most, f, bl, cc1, l, hi, hF⟩ := hc1'
  have hfx := hi.held hh1
  obtain ⟨r, cc, i, q1, q2, q3, q4⟩ := hi.at hfx
  have hx1 : BS H1 (some ⟨ra, off, none⟩) 256 c bs := by
    obtain ⟨arr, ty, fr, g1, g2, g3⟩ := hx.rd
    exact ⟨hx.len, hx.le, arr, ty, fr, hk1 _ _ (hE0.old _ _ g1) (hxF _ _ rfl), g2, g3⟩
  (conv => whnf); repeat first | (refine drw (by decide +kernel) ?_; conv => whnf) | (refine fun (_ : Nat) (_ : _ ≤ _) (_ : _ = none) => ?_; conv => whnf)
  (refine VCall.ret (by kernel_rfl) (fun w hs => clone_ok w hs hx1 (by decide) (by decide)) ?_ ?_)
  · rintro i ⟨⟩
  rintro v H2 hk2 hd2 ⟨r2, c2, rfl, hN2, ho2⟩
  have hS2 : Sub H1 H2 := fun i o ho => hk2 i o ho (fun h => h)
  have hi2 := hi.mono (hS2.on _) (hS2.on _)
  have hnF : ¬ F1 r2 := fun h => by obtain ⟨o, ho⟩ := hc1.dom r2 h; rw [hN2] at ho; cases ho
  (conv => whnf); repeat first | (refine drw (by decide +kernel) ?_; conv => whnf) | (refine fun (_ : Nat) (_ : _ ≤ _) (_ : _ = none) => ?_; conv => whnf)
  refine ⟨rfl, _, _, _, hS2 _ _ q2, (by decide : 0 + 1 ≤ 2), .inr (.inl (Nat.zero_le _)), ?_, (fun v hv => by rw [List.mem_singleton.1 hv]; rfl), ?_⟩
  · rcases hg1.out x ((hF x).2 (.inr q1)) with h | h
    · exact .inl h
    · right
      obtain ⟨o', ho'⟩ : ∃ o', H1 x = some o' := ⟨_, q2⟩
      rcases hd1 _ _ ho' with ⟨o2, ho2⟩ | hle
      · rw [h] at ho2; cases ho2
      · exact hle
  intro H3 hU
  (conv => whnf); repeat first | (refine drw (by decide +kernel) ?_; conv => whnf) | (refine fun (_ : Nat) (_ : _ ≤ _) (_ : _ = none) => ?_; conv => whnf)
  have hr2x : r2 ≠ x := fun e => by rw [e, q2] at hN2; cases hN2
  have hset := hi2.setx (H' := H3) (r' := r2) (cc' := c2) (i' := i) hfx hx.len hU.old hU.new ((ho2.mono (fun r o hr ho => by cases hr; exact hU.old _ _ hr2x ho)).bs) (.inr (fun h => hnF ((hF _).2 (.inl h))))
  refine ⟨rfl, fun i => F1 i ∨ i = r2, ⟨Fd, _, m, most, f, bl, cc1, l, hset, fun i => ?_⟩, ?_⟩
  · show (F1 i ∨ i = r2) ↔ (Fd i ∨ (Fo i ∨ i = r2))
    rw [hF i, or_assoc]
  · refine ⟨fun i hi => ?_, fun i hi => .inl (hg1.inn i hi)⟩
    rcases hi with hi | rfl
    · rcases hg1.out i hi with h | h
      · exact .inl h
      · exact .inr (hE0.none h)
    · exact .inr (hE0.none (kept_none hk1 hN2 (fun h => hnF (hg1.inn _ h))))

theorem cheld_ok {H : HV} {Fd Fo : Nat → Prop} {p dp m most : Nat} {f : Int → Option Value} {bl : Option Nat} {c : Nat} {l : List Int} {d : Dk} {val : Nat → List UInt8} (h : CIn H Fd Fo p dp m most f bl c l d val) (b : Nat) (w : World) (hs : ∀ i o, H i = some o → w.heap[i]? = some o) :
    Calls Tryz.prog 237 #[pV p, iV b] w (RetP (match f b with | some v => .tuple #[v, iV 0] | none => .tuple #[.pointer none, iV 20]) w) := by
  obtain ⟨c0, c1, c2, c3⟩ := h.c0
  refine fn_pure (args := [pV p, iV b]) tabH Tryz.func237 rfl (by kernel_rfl)  hs ?_
  (conv => whnf); repeat first | (refine drw (by decide +kernel) ?_; conv => whnf) | (refine fun (_ : Nat) (_ : _ ≤ _) (_ : _ = none) => ?_; conv => whnf)
  refine ⟨_, c2, ?_⟩
  (conv => whnf); repeat first | (refine drw (by decide +kernel) ?_; conv => whnf) | (refine fun (_ : Nat) (_ : _ ≤ _) (_ : _ = none) => ?_; conv => whnf)
  refine h.mo.look b (fun v hv => ?_) (fun hn => ?_)
  · obtain ⟨b', e1, e2, x, r, cc, i, rfl, _⟩ := h.buf b v hv
    (conv => whnf); repeat first | (refine drw (by decide +kernel) ?_; conv => whnf) | (refine fun (_ : Nat) (_ : _ ≤ _) (_ : _ = none) => ?_; conv => whnf)
    rw [hv]; rfl
  · (conv => whnf); repeat first | (refine drw (by decide +kernel) ?_; conv => whnf) | (refine fun (_ : Nat) (_ : _ ≤ _) (_ : _ = none) => ?_; conv => whnf)
    rw [hn]; rfl

theorem cpin_ok {H : HV} {F : Nat → Prop} {p dp : Nat} {d : Dk} {val : Nat → List UInt8} {b : Nat} (w : World) (hs : ∀ i o, H i = some o → w.heap[i]? = some o) (hc : CacheAt H F p dp d val) :
    Calls Tryz.prog 217 #[pV p, iV b] w (Ret H F (fun v H1 => Is ((∃ e, v = iV e) ∧ CacheAt H1 F p dp d val)) w) := by
  refine fn_ret (args := [pV p, iV b]) tabH Tryz.func217 rfl (by kernel_rfl)  hs ?_
  have hc' := hc
  obtain ⟨Fd, Fo, m, most, f, bl, cc1, l, hi, hF⟩ := hc'
  (conv => whnf); repeat first | (refine drw (by decide +kernel) ?_; conv => whnf) | (refine fun (_ : Nat) (_ : _ ≤ _) (_ : _ = none) => ?_; conv => whnf)
  (refine VCall.pure_ (by kernel_rfl) (fun w hs => cheld_ok hi b w hs) ?_); (conv => whnf); repeat first | (refine drw (by decide +kernel) ?_; conv => whnf) | (refine fun (_ : Nat) (_ : _ ≤ _) (_ : _ = none) => ?_; conv => whnf)
  cases hfb : f b with
  | none =>
    (conv => whnf); repeat first | (refine drw (by decide +kernel) ?_; conv => whnf) | (refine fun (_ : Nat) (_ : _ ≤ _) (_ : _ = none) => ?_; conv => whnf)
    exact ⟨⟨_, rfl⟩, hc⟩
  | some v =>
    obtain ⟨b', e1, e2, x, r, cc, i, rfl, q1, q2, q3, q4⟩ := hi.buf b v hfb
    have : b' = b := by omega
    subst this
    have hcell : RdC H x 1 (iV i) := ⟨_, _, _, q2, rfl⟩
    (conv => whnf); repeat first | (refine drw (by decide +kernel) ?_; conv => whnf) | (refine fun (_ : Nat) (_ : _ ≤ _) (_ : _ = none) => ?_; conv => whnf)
    skip
    refine ⟨_, hcell, ?_⟩
    (conv => whnf); repeat first | (refine drw (by decide +kernel) ?_; conv => whnf) | (refine fun (_ : Nat) (_ : _ ≤ _) (_ : _ = none) => ?_; conv => whnf)
    refine ⟨rfl, _, _, _, q2, (by decide : 1 + 1 ≤ 2), .inr (.inl (Nat.zero_le _)), .inl ((hF x).2 (.inr q1)), (fun v hv => by rw [List.mem_singleton.1 hv]; rfl), ?_⟩
    intro H3 hU
    (conv => whnf); repeat first | (refine drw (by decide +kernel) ?_; conv => whnf) | (refine fun (_ : Nat) (_ : _ ≤ _) (_ : _ = none) => ?_; conv => whnf)
    have hrx : r ≠ x := fun e => by
      obtain ⟨arr, ty, fr, kk, w1, w2⟩ := q4.cell0 (by decide)
      rw [e, q2] at w1; cases w1; simp at w2
    have q4' : BS H3 (some ⟨r, 0, none⟩) 256 cc (val b') := by
      obtain ⟨arr', ty', fr', z1, z2, z3⟩ := q4.rd
      exact ⟨q4.len, q4.le, _, _, _, hU.old _ _ hrx z1, z2, z3⟩
    have hset := hi.setx (H' := H3) hfb (hi.len b') hU.old hU.new q4' (.inl q3)
    have eu : upd val b' (val b') = val := by
      funext j
      by_cases e : j = b'
      · subst e; rw [upd_self]
      · rw [upd_ne _ _ _ e]
    rw [eu] at hset
    refine ⟨⟨_, rfl⟩, Fd, _, m, most, f, bl, cc1, l, hset, fun j => ?_⟩
    show F j ↔ (Fd j ∨ (Fo j ∨ j = r))
    rw [hF j]
    constructor
    · rintro (h | h)
      · exact .inl h
      · exact .inr (.inl h)
    · rintro (h | h | rfl)
      · exact .inl h
      · exact .inr h
      · exact .inr q3
end Go.Proofs.YtlkgjffffeohdaaGreat
