/- Caches: ask. -/
import Derived.Test.YtlkgjffffeohdaaGreatCache2
set_option linter.unusedVariables false
set_option linter.unusedSimpArgs false
namespace Go.Proofs.YtlkgjffffeohdaaGreat
open Go Go.Eng Go.Proofs

theorem filter_ints (l : List Int) (b : Int) : (intsV l).filter (fun v => !(match v with | .int _ j => decide (j = b) | _ => false)) = intsV (l.filter (fun k => decide (k ≠ b))) := by
  unfold intsV
  rw [List.filter_map]
  congr 1
  refine List.filter_congr fun x _ => ?_
  simp only [Function.comp, ne_eq, decide_not]

/-- a block more -/
theorem CIn.add {H H' : HV} {Fd Fo : Nat → Prop} {p dp m most : Nat} {f : Int → Option Value} {bl bl' : Option Nat} {c c' : Nat} {l : List Int} {d : Dk} {val : Nat → List UInt8} {b x r : Nat} (h : CIn H Fd Fo p dp m most f bl c l d val) (hb : b < d.n) (hfb : f b = none)
    (hk : ∀ i o, i ≠ p → i ≠ m → bl ≠ some i → H i = some o → H' i = some o) (hp : H' p = some (.cells #[pV dp, .int .i64 most, .map (some m), slV bl' (l.length + 1) c'] 306 (0, 0))) (hl : OS H' 3 1 bl' (l.length + 1) c' (intsV l ++ [kV b]))
    (hm : MO H' m (upd f b (some (pV x)))) (hx : H' x = some (.cells #[slV (some r) 256 256, .int .i64 0] 303 (0, 0))) (hr : BS H' (some ⟨r, 0, none⟩) 256 256 (d.last b)) (hxn : H x = none) (hrn : H r = none)
    (hbn : ∀ r, bl' = some r → bl = some r ∨ H r = none) (hbd : ∀ r, bl = some r → ∃ o, H' r = some o) :
    CIn H' Fd (fun i => Fo i ∨ bl' = some i ∨ i = x ∨ i = r) p dp m most (upd f b (some (pV x))) bl' c' (l ++ [(b : Int)]) d val := by
  obtain ⟨es, ec, hem, _⟩ := id h.mo
  have hpm : m ≠ p := fun e => by rw [e, h.cell] at hem; cases hem
  have hbl : (b : Int) ∉ l := fun hin => (h.mem b).1 hin hfb
  have hr' : ∃ o, H' r = some o := by obtain ⟨arr, ty, fr, k, g, _⟩ := hr.cell0 (by decide); exact ⟨_, g⟩
  refine ⟨h.disk.mono (fun i o hi ho => hk i o (fun e => h.sep i hi (e ▸ h.fp)) (fun e => h.sep i hi (e ▸ h.fm)) (fun e => h.sep i hi (h.fl i e)) ho), fun i hi => ?_, fun i hi hi2 => ?_, .inl h.fp, .inl h.fm, fun r hr => .inr (.inl hr), by rw [hp]; simp, h.most, hm, by rw [show intsV (l ++ [(b : Int)]) = intsV l ++ [kV b] from by simp [intsV]]; simpa using hl, ?_, fun k => ?_, fun k v hkv => ?_, fun k k' v hkv hkv' => ?_, fun b' hb' => ?_, h.len⟩
  · rcases hi with hi | hi | rfl | rfl
    · obtain ⟨o, ho⟩ := h.dom i hi
      by_cases e : i = p
      · subst e; exact ⟨_, hp⟩
      · by_cases e2 : bl = some i
        · exact hbd i e2
        · by_cases e3 : i = m
          · subst e3; obtain ⟨_, _, g, _⟩ := hm; exact ⟨_, g⟩
          · exact ⟨o, hk i o e e3 e2 ho⟩
    · have := hl; rw [hi] at this
      obtain ⟨arr, g, _⟩ := this.out
      exact ⟨_, g⟩
    · exact ⟨_, hx⟩
    · exact hr'
  · obtain ⟨o, ho⟩ := h.disk.dom i hi
    rcases hi2 with hi2 | hi2 | rfl | rfl
    · exact h.sep i hi hi2
    · rcases hbn i hi2 with e | e
      · exact h.sep i hi (h.fl i e)
      · rw [e] at ho; cases ho
    · rw [hxn] at ho; cases ho
    · rw [hrn] at ho; cases ho
  · rw [List.nodup_append]
    exact ⟨h.nd, by simp, fun a ha b' hb' e => hbl (by rw [List.mem_singleton.1 hb'] at e; rw [← e]; exact ha)⟩
  · rw [List.mem_append, List.mem_singleton]
    by_cases e : k = b
    · subst e; simp [upd_self]
    · rw [upd_ne _ _ _ e, ← h.mem]; simp [e]
  · by_cases e : k = b
    · subst e
      rw [upd_self] at hkv; cases hkv
      refine ⟨b, rfl, hb, ⟨x, r, 256, 0, rfl, .inr (.inr (.inl rfl)), hx, .inr (.inr (.inr rfl)), ?_⟩⟩
      rw [h.out b hfb]; exact hr
    · rw [upd_ne _ _ _ e] at hkv
      obtain ⟨b', e1, e2, e3⟩ := h.buf k v hkv
      refine ⟨b', e1, e2, e3.mono (fun x o arr hx ho e => hk x o (fun e' => ?_) (fun e' => ?_) (fun e' => ?_) ho) (fun r arr ty fr k' hr ho e => hk r _ (fun e' => ?_) (fun e' => ?_) (fun e' => ?_) ho) (fun i hi => .inl hi)⟩
      · rw [e', h.cell, e] at ho
        simp at ho
      · rw [e', hem, e] at ho
        cases ho
      · have hls := h.ls; rw [e'] at hls
        obtain ⟨ar, g, _⟩ := hls.out
        rw [g, e] at ho
        simp at ho
      · rw [e', h.cell] at ho
        cases ho
        simp [pV] at e
      · rw [e', hem] at ho
        cases ho
      · have hls := h.ls; rw [e'] at hls
        obtain ⟨ar, g, g2, g3⟩ := hls.out
        rw [ho] at g; cases g
        have hlen : 0 < l.length := List.length_pos_of_mem ((h.mem k).2 (by rw [hkv]; simp))
        have h0 : (intsV l)[0]? = some (.int .u8 k') := by
          rw [g3, Nat.mul_one, List.getElem?_take_of_lt hlen]
          simpa using e
        cases l with
        | nil => simp at hlen
        | cons a l => simp [intsV] at h0
  · have hno : ∀ k v, f k = some v → v ≠ pV x := by
      intro k v hkv e
      obtain ⟨b', e1, e2, y, r', c2, i2, q1, q2, _⟩ := h.buf k v hkv
      rw [e] at q1
      have hxy : x = y := by simpa [pV] using q1
      obtain ⟨o, ho⟩ := h.dom y q2
      rw [← hxy, hxn] at ho; cases ho
    by_cases e : k = b
    · by_cases e' : k' = b
      · rw [e, e']
      · rw [e, upd_self] at hkv; cases hkv
        rw [upd_ne _ _ _ e'] at hkv'
        exact (hno _ _ hkv' rfl).elim
    · rw [upd_ne _ _ _ e] at hkv
      by_cases e' : k' = b
      · rw [e', upd_self] at hkv'; cases hkv'
        exact (hno _ _ hkv rfl).elim
      · rw [upd_ne _ _ _ e'] at hkv'
        exact h.inj _ _ _ hkv hkv'
  · by_cases e : b' = b
    · subst e; rw [upd_self] at hb'; cases hb'
    · rw [upd_ne _ _ _ (by omega)] at hb'
      exact h.out b' hb'

theorem cask_ok {H : HV} {F : Nat → Prop} {p dp : Nat} {d : Dk} {val : Nat → List UInt8} {b : Nat} (w : World) (hs : ∀ i o, H i = some o → w.heap[i]? = some o) (hc : CacheAt H F p dp d val) (hb : b < d.n) :
    Calls Tryz.prog 231 #[pV p, iV b] w (Ret H F (fun v H1 => Is (∃ x F', v = .tuple #[pV x, iV 0] ∧ CacheAt H1 F' p dp d val ∧ Grow H F F' ∧ Held H1 p b x)) w) := by
  have hdom := hc.dom
  obtain ⟨Fd, Fo, m, most, f, bl, cc, l, hi, hF⟩ := hc
  obtain ⟨c0, c1, c2, c3⟩ := hi.c0
  have hln : l.length ≤ 4096 := by
    have := nodup_len_le (r := (List.range d.n).map (fun (i : Nat) => (i : Int))) hi.nd (fun k hk => by
      cases hfk : f k with
      | none => exact ((hi.mem k).1 hk hfk).elim
      | some v => obtain ⟨i, rfl, hin, _⟩ := hi.buf k v hfk; exact List.mem_map.2 ⟨i, List.mem_range.2 hin, rfl⟩)
    simp at this
    have := hi.most
    omega
  refine fn_ret (args := [pV p, iV b]) tabH Tryz.func231 rfl (by kernel_rfl)  hs ?_
  conv => whnf
  intro rb hBb hNb
  (conv => whnf); repeat first | (refine drw (by decide +kernel) ?_; conv => whnf) | (refine fun (_ : Nat) (_ : _ ≤ _) (_ : _ = none) => ?_; conv => whnf)
  refine ⟨_, c2, ?_⟩
  (conv => whnf); repeat first | (refine drw (by decide +kernel) ?_; conv => whnf) | (refine fun (_ : Nat) (_ : _ ≤ _) (_ : _ = none) => ?_; conv => whnf)
  refine hi.mo.look b (fun v hv => ?_) (fun hn => ?_)
  · obtain ⟨b', e1, e2, x, r, c, i, rfl, _⟩ := hi.buf b v hv
    conv => whnf
    refine VDraw.float [(rb, 0, [iV b])] [7, 1004] 8 [0, 1, 2, 3, 7, 5, 4, 6] [9, 10, 11, 12] [4, 6] tabH mixH (by kernel_rfl) ⟨.inr ⟨0, _, _, rfl, rfl, rfl⟩, trivial⟩ ?_
    (conv => whnf); repeat (first | (refine fun (_ : Nat) (_ : _ ≤ _) (_ : _ = none) => ?_; conv => whnf) | (refine drw (by decide +kernel) ?_; conv => whnf) | (refine And.intro ?_ ?_; (focus (first | ((repeat (first | exact trivial | ((conv => whnf); refine And.intro (by first | exact .inr ⟨0, _, _, rfl, rfl, rfl⟩ | exact .inr ⟨1, _, _, rfl, rfl, rfl⟩ | exact .inr ⟨2, _, _, rfl, rfl, rfl⟩ | exact .inr ⟨3, _, _, rfl, rfl, rfl⟩ | assumption) ?_))); done) | ((conv => whnf); first | exact ⟨0, 0, _, _, _, rfl, (Nat.zero_add _).symm, rfl, rfl⟩ | exact ⟨1, 0, _, _, _, rfl, (Nat.zero_add _).symm, rfl, rfl⟩ | exact ⟨2, 0, _, _, _, rfl, (Nat.zero_add _).symm, rfl, rfl⟩ | exact ⟨3, 0, _, _, _, rfl, (Nat.zero_add _).symm, rfl, rfl⟩ | exact ⟨0, _, 0, _, _, rfl, rfl, rfl, rfl⟩ | exact ⟨1, _, 0, _, _, rfl, rfl, rfl, rfl⟩ | exact ⟨2, _, 0, _, _, rfl, rfl, rfl, rfl⟩ | exact ⟨3, _, 0, _, _, rfl, rfl, rfl, rfl⟩))); conv => whnf))
    intro H1 hE1
    (conv => whnf); repeat (first | (refine fun (_ : Nat) (_ : _ ≤ _) (_ : _ = none) => ?_; conv => whnf) | (refine drw (by decide +kernel) ?_; conv => whnf) | (refine And.intro ?_ ?_; (focus (first | ((repeat (first | exact trivial | ((conv => whnf); refine And.intro (by first | exact .inr ⟨0, _, _, rfl, rfl, rfl⟩ | exact .inr ⟨1, _, _, rfl, rfl, rfl⟩ | exact .inr ⟨2, _, _, rfl, rfl, rfl⟩ | exact .inr ⟨3, _, _, rfl, rfl, rfl⟩ | assumption) ?_))); done) | ((conv => whnf); first | exact ⟨0, 0, _, _, _, rfl, (Nat.zero_add _).symm, rfl, rfl⟩ | exact ⟨1, 0, _, _, _, rfl, (Nat.zero_add _).symm, rfl, rfl⟩ | exact ⟨2, 0, _, _, _, rfl, (Nat.zero_add _).symm, rfl, rfl⟩ | exact ⟨3, 0, _, _, _, rfl, (Nat.zero_add _).symm, rfl, rfl⟩ | exact ⟨0, _, 0, _, _, rfl, rfl, rfl, rfl⟩ | exact ⟨1, _, 0, _, _, rfl, rfl, rfl, rfl⟩ | exact ⟨2, _, 0, _, _, rfl, rfl, rfl, rfl⟩ | exact ⟨3, _, 0, _, _, rfl, rfl, rfl, rfl⟩))); conv => whnf))
    have hls1 := hi.ls.mono (H' := H1) (fun r o hr ho => hE1.old _ _ ho)
    have hrbn : bl ≠ some rb := fun e => by obtain ⟨o, ho⟩ := hi.dom _ (hi.fl _ e); rw [hNb] at ho; cases ho
    have hblp : bl ≠ some p := fun e => by
      have := hi.ls; rw [e] at this
      obtain ⟨arr, g, _⟩ := this.out
      rw [hi.cell] at g; simp at g
    have hown : ∀ i, bl = some i → F i := fun i e => (hF i).2 (.inr (hi.fl _ e))
    have hfin : ∀ (H4 H5 : HV) (b4 : Option Nat) (c4 : Nat), OS H4 3 1 b4 ((l.filter (fun k => decide (k ≠ (b : Int)))).length + 1) c4 (intsV (l.filter (fun k => decide (k ≠ (b : Int)))) ++ [kV b]) → (∀ i o, bl ≠ some i → H i = some o → H4 i = some o) →
        (∀ r, b4 = some r → bl = some r ∨ (H r = none)) → (∀ r, bl = some r → ∃ o, H4 r = some o) → Upd H4 H5 p (.cells (setMany #[pV dp, .int .i64 most, .map (some m), slV bl l.length cc] 3 [slV b4 ((l.filter (fun k => decide (k ≠ (b : Int)))).length + 1) c4]) 306 (0, 0)) →
        ∃ x' F', Value.tuple #[pV x, iV 0] = .tuple #[pV x', iV 0] ∧ CacheAt H5 F' p dp d val ∧ Grow H F F' ∧ Held H5 p b x' := by
      intro H4 H5 b4 c4 ho4 hk4 hb4 hd4 hU
      have hlen : (l.filter (fun k => decide (k ≠ (b : Int))) ++ [(b : Int)]).length = (l.filter (fun k => decide (k ≠ (b : Int)))).length + 1 := by simp
      have hint : intsV (l.filter (fun k => decide (k ≠ (b : Int))) ++ [(b : Int)]) = intsV (l.filter (fun k => decide (k ≠ (b : Int)))) ++ [kV b] := by simp [intsV]
      have h4p : H4 p = some (.cells #[pV dp, .int .i64 most, .map (some m), slV bl l.length cc] 306 (0, 0)) := hk4 _ _ hblp hi.cell
      have hb4p : b4 ≠ some p := fun e => by
        rw [e] at ho4
        obtain ⟨arr, g, _⟩ := ho4.out
        rw [h4p] at g; simp at g
      have hbl : (b : Int) ∈ l := (hi.mem b).2 (by rw [hv]; simp)
      have hrel := hi.relist (H' := H5) (bl' := b4) (c' := c4) (l' := l.filter (fun k => decide (k ≠ (b : Int))) ++ [(b : Int)]) (fun i o h1 h2 h3 => hU.old i o h1 (hk4 i o h2 h3)) (by rw [hlen]; exact hU.new) (by rw [hlen, hint]; exact ho4.mono (fun r o hr ho => hU.old r o (fun e => hb4p (by rw [hr, e])) ho))
        (by
          rw [List.nodup_append]
          refine ⟨hi.nd.filter _, by simp, fun a ha b' hb' => ?_⟩
          rw [List.mem_singleton.1 hb']
          have := (List.mem_filter.1 ha).2
          simpa using this)
        (fun k => by
          rw [List.mem_append, List.mem_filter, List.mem_singleton]
          by_cases e : k = b
          · subst e; simp [hbl]
          · simp [e]) hb4 (fun r hr => by
          obtain ⟨o, ho⟩ := hd4 r hr
          exact ⟨o, hU.old r o (fun e => hblp (by rw [hr, e])) ho⟩)
      refine ⟨x, fun i => F i ∨ b4 = some i, rfl, ⟨Fd, fun i => Fo i ∨ b4 = some i, m, most, f, b4, c4, _, hrel, fun i => ?_⟩, ?_, ?_⟩
      · show (F i ∨ b4 = some i) ↔ (Fd i ∨ (Fo i ∨ b4 = some i))
        rw [hF i]
        constructor
        · rintro ((h | h) | h)
          · exact .inl h
          · exact .inr (.inl h)
          · exact .inr (.inr h)
        · rintro (h | h | h)
          · exact .inl (.inl h)
          · exact .inl (.inr h)
          · exact .inr h
      · refine ⟨?_, fun i h => .inl h⟩
        rintro i (h | h)
        · exact .inl h
        · rcases hb4 i h with e | e
          · exact .inl (hown i e)
          · exact .inr e
      · exact ⟨m, f, ⟨_, _, _, hU.new, rfl⟩, hrel.mo, hv⟩
    have hp1 : ∀ v ∈ intsV l, ∀ (HH : HV), (∀ i o, bl ≠ some i → H1 i = some o → HH i = some o) → ∀ w : World, (∀ i o, bl ≠ some i → HH i = some o → w.heap[i]? = some o) → Calls Tryz.prog 281 ([] ++ ([v] ++ [Value.pointer (some ⟨rb, 0, none⟩)])).toArray w (RetP (.bool (match v with | .int _ j => decide (j = (b : Int)) | _ => false)) w) := by
      intro v hv HH hHH w hs
      obtain ⟨k, _, rfl⟩ := List.mem_map.1 hv
      refine ask1_ok k w (H := fun i => if bl = some i then none else HH i) (fun i o hi => ?_) ⟨_, _, _, (if_neg hrbn).trans (hHH _ _ hrbn hE1.new), rfl⟩
      split at hi
      · cases hi
      · exact hs i o (by assumption) hi
    have hflen := List.length_filter_le (fun k => decide (k ≠ (b : Int))) l
    have c3' : RdC H1 p 3 (slV bl l.length cc) := ⟨_, _, _, hE1.old _ _ hi.cell, rfl⟩
    have hrp : rb ≠ p := fun e => by rw [e, hi.cell] at hNb; cases hNb
    refine ⟨?_, ?_⟩
    · (conv => whnf); repeat (first | (refine fun (_ : Nat) (_ : _ ≤ _) (_ : _ = none) => ?_; conv => whnf) | (refine drw (by decide +kernel) ?_; conv => whnf) | (refine And.intro ?_ ?_; (focus (first | ((repeat (first | exact trivial | ((conv => whnf); refine And.intro (by first | exact .inr ⟨0, _, _, rfl, rfl, rfl⟩ | exact .inr ⟨1, _, _, rfl, rfl, rfl⟩ | exact .inr ⟨2, _, _, rfl, rfl, rfl⟩ | exact .inr ⟨3, _, _, rfl, rfl, rfl⟩ | assumption) ?_))); done) | ((conv => whnf); first | exact ⟨0, 0, _, _, _, rfl, (Nat.zero_add _).symm, rfl, rfl⟩ | exact ⟨1, 0, _, _, _, rfl, (Nat.zero_add _).symm, rfl, rfl⟩ | exact ⟨2, 0, _, _, _, rfl, (Nat.zero_add _).symm, rfl, rfl⟩ | exact ⟨3, 0, _, _, _, rfl, (Nat.zero_add _).symm, rfl, rfl⟩ | exact ⟨0, _, 0, _, _, rfl, rfl, rfl, rfl⟩ | exact ⟨1, _, 0, _, _, rfl, rfl, rfl, rfl⟩ | exact ⟨2, _, 0, _, _, rfl, rfl, rfl, rfl⟩ | exact ⟨3, _, 0, _, _, rfl, rfl, rfl, rfl⟩))); conv => whnf))
      refine ⟨by decide, ?_⟩
      intro rn H2 hBn hNn hEn
      (conv => whnf); repeat (first | (refine fun (_ : Nat) (_ : _ ≤ _) (_ : _ = none) => ?_; conv => whnf) | (refine drw (by decide +kernel) ?_; conv => whnf) | (refine And.intro ?_ ?_; (focus (first | ((repeat (first | exact trivial | ((conv => whnf); refine And.intro (by first | exact .inr ⟨0, _, _, rfl, rfl, rfl⟩ | exact .inr ⟨1, _, _, rfl, rfl, rfl⟩ | exact .inr ⟨2, _, _, rfl, rfl, rfl⟩ | exact .inr ⟨3, _, _, rfl, rfl, rfl⟩ | assumption) ?_))); done) | ((conv => whnf); first | exact ⟨0, 0, _, _, _, rfl, (Nat.zero_add _).symm, rfl, rfl⟩ | exact ⟨1, 0, _, _, _, rfl, (Nat.zero_add _).symm, rfl, rfl⟩ | exact ⟨2, 0, _, _, _, rfl, (Nat.zero_add _).symm, rfl, rfl⟩ | exact ⟨3, 0, _, _, _, rfl, (Nat.zero_add _).symm, rfl, rfl⟩ | exact ⟨0, _, 0, _, _, rfl, rfl, rfl, rfl⟩ | exact ⟨1, _, 0, _, _, rfl, rfl, rfl, rfl⟩ | exact ⟨2, _, 0, _, _, rfl, rfl, rfl, rfl⟩ | exact ⟨3, _, 0, _, _, rfl, rfl, rfl, rfl⟩))); conv => whnf))
      refine ⟨⟨KnownC.c ⟨_, _, _, hEn.old _ _ hE1.new, rfl⟩ _, trivial⟩, ?_⟩
      (conv => whnf); repeat (first | (refine fun (_ : Nat) (_ : _ ≤ _) (_ : _ = none) => ?_; conv => whnf) | (refine drw (by decide +kernel) ?_; conv => whnf) | (refine And.intro ?_ ?_; (focus (first | ((repeat (first | exact trivial | ((conv => whnf); refine And.intro (by first | exact .inr ⟨0, _, _, rfl, rfl, rfl⟩ | exact .inr ⟨1, _, _, rfl, rfl, rfl⟩ | exact .inr ⟨2, _, _, rfl, rfl, rfl⟩ | exact .inr ⟨3, _, _, rfl, rfl, rfl⟩ | assumption) ?_))); done) | ((conv => whnf); first | exact ⟨0, 0, _, _, _, rfl, (Nat.zero_add _).symm, rfl, rfl⟩ | exact ⟨1, 0, _, _, _, rfl, (Nat.zero_add _).symm, rfl, rfl⟩ | exact ⟨2, 0, _, _, _, rfl, (Nat.zero_add _).symm, rfl, rfl⟩ | exact ⟨3, 0, _, _, _, rfl, (Nat.zero_add _).symm, rfl, rfl⟩ | exact ⟨0, _, 0, _, _, rfl, rfl, rfl, rfl⟩ | exact ⟨1, _, 0, _, _, rfl, rfl, rfl, rfl⟩ | exact ⟨2, _, 0, _, _, rfl, rfl, rfl, rfl⟩ | exact ⟨3, _, 0, _, _, rfl, rfl, rfl, rfl⟩))); conv => whnf))
      refine ⟨_, (⟨_, _, _, hEn.old _ _ (hE1.old _ _ hi.cell), rfl⟩ : RdC H2 p 3 (slV bl l.length cc)), ?_⟩; (conv => whnf); repeat (first | (refine fun (_ : Nat) (_ : _ ≤ _) (_ : _ = none) => ?_; conv => whnf) | (refine drw (by decide +kernel) ?_; conv => whnf) | (refine And.intro ?_ ?_; (focus (first | ((repeat (first | exact trivial | ((conv => whnf); refine And.intro (by first | exact .inr ⟨0, _, _, rfl, rfl, rfl⟩ | exact .inr ⟨1, _, _, rfl, rfl, rfl⟩ | exact .inr ⟨2, _, _, rfl, rfl, rfl⟩ | exact .inr ⟨3, _, _, rfl, rfl, rfl⟩ | assumption) ?_))); done) | ((conv => whnf); first | exact ⟨0, 0, _, _, _, rfl, (Nat.zero_add _).symm, rfl, rfl⟩ | exact ⟨1, 0, _, _, _, rfl, (Nat.zero_add _).symm, rfl, rfl⟩ | exact ⟨2, 0, _, _, _, rfl, (Nat.zero_add _).symm, rfl, rfl⟩ | exact ⟨3, 0, _, _, _, rfl, (Nat.zero_add _).symm, rfl, rfl⟩ | exact ⟨0, _, 0, _, _, rfl, rfl, rfl, rfl⟩ | exact ⟨1, _, 0, _, _, rfl, rfl, rfl, rfl⟩ | exact ⟨2, _, 0, _, _, rfl, rfl, rfl, rfl⟩ | exact ⟨3, _, 0, _, _, rfl, rfl, rfl, rfl⟩))); conv => whnf))
      have hls2 := hls1.mono (H' := H2) (fun r o hr ho => hEn.old _ _ ho)
      (refine VCall.ret (by kernel_rfl) (fun w hs => deleteI_ok (fun v => match v with | .int _ j => decide (j = (b : Int)) | _ => false) w hs hls2 (by omega) (fun v hv => by obtain ⟨k, _, rfl⟩ := List.mem_map.1 hv; exact ⟨rfl, rfl⟩) (by kernel_rfl) (fun v hv w hs => hp1 v hv H2 (fun i o _ h => hEn.old i o h) w hs)) ?_ ?_)
      · rintro i hii
        have hii : bl = some i := hii
        obtain ⟨o, ho⟩ := hi.dom _ (hi.fl _ hii)
        exact ⟨⟨o, hEn.old _ _ (hE1.old _ _ ho)⟩, .inl (hown i hii)⟩
      rintro v H3 hk3 hd3 ⟨k, rfl, ho3⟩
      rw [filter_ints] at ho3
      have hkl : k = (l.filter (fun k => decide (k ≠ (b : Int)))).length := by have := ho3.len; simpa [intsV] using this.symm
      subst hkl
      have hk31 : ∀ i o, bl ≠ some i → H1 i = some o → H3 i = some o := fun i o h1 h2 => hk3 i o (hEn.old _ _ h2) h1
      (conv => whnf); repeat (first | (refine fun (_ : Nat) (_ : _ ≤ _) (_ : _ = none) => ?_; conv => whnf) | (refine drw (by decide +kernel) ?_; conv => whnf) | (refine And.intro ?_ ?_; (focus (first | ((repeat (first | exact trivial | ((conv => whnf); refine And.intro (by first | exact .inr ⟨0, _, _, rfl, rfl, rfl⟩ | exact .inr ⟨1, _, _, rfl, rfl, rfl⟩ | exact .inr ⟨2, _, _, rfl, rfl, rfl⟩ | exact .inr ⟨3, _, _, rfl, rfl, rfl⟩ | assumption) ?_))); done) | ((conv => whnf); first | exact ⟨0, 0, _, _, _, rfl, (Nat.zero_add _).symm, rfl, rfl⟩ | exact ⟨1, 0, _, _, _, rfl, (Nat.zero_add _).symm, rfl, rfl⟩ | exact ⟨2, 0, _, _, _, rfl, (Nat.zero_add _).symm, rfl, rfl⟩ | exact ⟨3, 0, _, _, _, rfl, (Nat.zero_add _).symm, rfl, rfl⟩ | exact ⟨0, _, 0, _, _, rfl, rfl, rfl, rfl⟩ | exact ⟨1, _, 0, _, _, rfl, rfl, rfl, rfl⟩ | exact ⟨2, _, 0, _, _, rfl, rfl, rfl, rfl⟩ | exact ⟨3, _, 0, _, _, rfl, rfl, rfl, rfl⟩))); conv => whnf))
      refine ⟨⟨KnownC.c ⟨_, _, _, hk31 _ _ hrbn hE1.new, rfl⟩ _, trivial⟩, ?_⟩
      (conv => whnf); repeat (first | (refine fun (_ : Nat) (_ : _ ≤ _) (_ : _ = none) => ?_; conv => whnf) | (refine drw (by decide +kernel) ?_; conv => whnf) | (refine And.intro ?_ ?_; (focus (first | ((repeat (first | exact trivial | ((conv => whnf); refine And.intro (by first | exact .inr ⟨0, _, _, rfl, rfl, rfl⟩ | exact .inr ⟨1, _, _, rfl, rfl, rfl⟩ | exact .inr ⟨2, _, _, rfl, rfl, rfl⟩ | exact .inr ⟨3, _, _, rfl, rfl, rfl⟩ | assumption) ?_))); done) | ((conv => whnf); first | exact ⟨0, 0, _, _, _, rfl, (Nat.zero_add _).symm, rfl, rfl⟩ | exact ⟨1, 0, _, _, _, rfl, (Nat.zero_add _).symm, rfl, rfl⟩ | exact ⟨2, 0, _, _, _, rfl, (Nat.zero_add _).symm, rfl, rfl⟩ | exact ⟨3, 0, _, _, _, rfl, (Nat.zero_add _).symm, rfl, rfl⟩ | exact ⟨0, _, 0, _, _, rfl, rfl, rfl, rfl⟩ | exact ⟨1, _, 0, _, _, rfl, rfl, rfl, rfl⟩ | exact ⟨2, _, 0, _, _, rfl, rfl, rfl, rfl⟩ | exact ⟨3, _, 0, _, _, rfl, rfl, rfl, rfl⟩))); conv => whnf))
      have hrn : bl ≠ some rn := fun e => by obtain ⟨o, ho⟩ := hi.dom _ (hi.fl _ e); rw [hE1.none hNn] at ho; cases ho
      conv => whnf
      refine OS.append ho3 (by_ := 8) [kV b] (RdS_one (hk3 _ _ hEn.new hrn) rfl) rfl (fun v hv => by rw [List.mem_singleton.1 hv]; rfl) (by decide) (by omega) rfl (fun r hr => .inl (hown r hr)) ?_
      intro b4 c4 H4 ho4 hk4 hn4 hd4
      (conv => whnf); repeat (first | (refine fun (_ : Nat) (_ : _ ≤ _) (_ : _ = none) => ?_; conv => whnf) | (refine drw (by decide +kernel) ?_; conv => whnf) | (refine And.intro ?_ ?_; (focus (first | ((repeat (first | exact trivial | ((conv => whnf); refine And.intro (by first | exact .inr ⟨0, _, _, rfl, rfl, rfl⟩ | exact .inr ⟨1, _, _, rfl, rfl, rfl⟩ | exact .inr ⟨2, _, _, rfl, rfl, rfl⟩ | exact .inr ⟨3, _, _, rfl, rfl, rfl⟩ | assumption) ?_))); done) | ((conv => whnf); first | exact ⟨0, 0, _, _, _, rfl, (Nat.zero_add _).symm, rfl, rfl⟩ | exact ⟨1, 0, _, _, _, rfl, (Nat.zero_add _).symm, rfl, rfl⟩ | exact ⟨2, 0, _, _, _, rfl, (Nat.zero_add _).symm, rfl, rfl⟩ | exact ⟨3, 0, _, _, _, rfl, (Nat.zero_add _).symm, rfl, rfl⟩ | exact ⟨0, _, 0, _, _, rfl, rfl, rfl, rfl⟩ | exact ⟨1, _, 0, _, _, rfl, rfl, rfl, rfl⟩ | exact ⟨2, _, 0, _, _, rfl, rfl, rfl, rfl⟩ | exact ⟨3, _, 0, _, _, rfl, rfl, rfl, rfl⟩))); conv => whnf))
      have hk40 : ∀ i o, bl ≠ some i → H3 i = some o → H4 i = some o := fun i o h1 h2 => hk4 i o (.inl h1) h2
      refine ⟨⟨KnownC.c ⟨_, _, _, hk40 _ _ hrbn (hk31 _ _ hrbn hE1.new), rfl⟩ _, trivial⟩, ?_⟩
      (conv => whnf); repeat (first | (refine fun (_ : Nat) (_ : _ ≤ _) (_ : _ = none) => ?_; conv => whnf) | (refine drw (by decide +kernel) ?_; conv => whnf) | (refine And.intro ?_ ?_; (focus (first | ((repeat (first | exact trivial | ((conv => whnf); refine And.intro (by first | exact .inr ⟨0, _, _, rfl, rfl, rfl⟩ | exact .inr ⟨1, _, _, rfl, rfl, rfl⟩ | exact .inr ⟨2, _, _, rfl, rfl, rfl⟩ | exact .inr ⟨3, _, _, rfl, rfl, rfl⟩ | assumption) ?_))); done) | ((conv => whnf); first | exact ⟨0, 0, _, _, _, rfl, (Nat.zero_add _).symm, rfl, rfl⟩ | exact ⟨1, 0, _, _, _, rfl, (Nat.zero_add _).symm, rfl, rfl⟩ | exact ⟨2, 0, _, _, _, rfl, (Nat.zero_add _).symm, rfl, rfl⟩ | exact ⟨3, 0, _, _, _, rfl, (Nat.zero_add _).symm, rfl, rfl⟩ | exact ⟨0, _, 0, _, _, rfl, rfl, rfl, rfl⟩ | exact ⟨1, _, 0, _, _, rfl, rfl, rfl, rfl⟩ | exact ⟨2, _, 0, _, _, rfl, rfl, rfl, rfl⟩ | exact ⟨3, _, 0, _, _, rfl, rfl, rfl, rfl⟩))); conv => whnf))
      refine ⟨rfl, _, _, _, hk40 _ _ hblp (hk31 _ _ hblp (hE1.old _ _ hi.cell)), Nat.le_refl 4, .inr (.inl (Nat.zero_le _)), .inl ((hF p).2 (.inr hi.fp)), (fun v hv => by rw [List.mem_singleton.1 hv]; rfl), ?_⟩
      intro H5 hU
      (conv => whnf); repeat (first | (refine fun (_ : Nat) (_ : _ ≤ _) (_ : _ = none) => ?_; conv => whnf) | (refine drw (by decide +kernel) ?_; conv => whnf) | (refine And.intro ?_ ?_; (focus (first | ((repeat (first | exact trivial | ((conv => whnf); refine And.intro (by first | exact .inr ⟨0, _, _, rfl, rfl, rfl⟩ | exact .inr ⟨1, _, _, rfl, rfl, rfl⟩ | exact .inr ⟨2, _, _, rfl, rfl, rfl⟩ | exact .inr ⟨3, _, _, rfl, rfl, rfl⟩ | assumption) ?_))); done) | ((conv => whnf); first | exact ⟨0, 0, _, _, _, rfl, (Nat.zero_add _).symm, rfl, rfl⟩ | exact ⟨1, 0, _, _, _, rfl, (Nat.zero_add _).symm, rfl, rfl⟩ | exact ⟨2, 0, _, _, _, rfl, (Nat.zero_add _).symm, rfl, rfl⟩ | exact ⟨3, 0, _, _, _, rfl, (Nat.zero_add _).symm, rfl, rfl⟩ | exact ⟨0, _, 0, _, _, rfl, rfl, rfl, rfl⟩ | exact ⟨1, _, 0, _, _, rfl, rfl, rfl, rfl⟩ | exact ⟨2, _, 0, _, _, rfl, rfl, rfl, rfl⟩ | exact ⟨3, _, 0, _, _, rfl, rfl, rfl, rfl⟩))); conv => whnf))
      refine ⟨⟨KnownC.c ⟨_, _, _, hU.old _ _ hrp (hk40 _ _ hrbn (hk31 _ _ hrbn hE1.new)), rfl⟩ _, trivial⟩, ?_⟩
      (conv => whnf); repeat (first | (refine fun (_ : Nat) (_ : _ ≤ _) (_ : _ = none) => ?_; conv => whnf) | (refine drw (by decide +kernel) ?_; conv => whnf) | (refine And.intro ?_ ?_; (focus (first | ((repeat (first | exact trivial | ((conv => whnf); refine And.intro (by first | exact .inr ⟨0, _, _, rfl, rfl, rfl⟩ | exact .inr ⟨1, _, _, rfl, rfl, rfl⟩ | exact .inr ⟨2, _, _, rfl, rfl, rfl⟩ | exact .inr ⟨3, _, _, rfl, rfl, rfl⟩ | assumption) ?_))); done) | ((conv => whnf); first | exact ⟨0, 0, _, _, _, rfl, (Nat.zero_add _).symm, rfl, rfl⟩ | exact ⟨1, 0, _, _, _, rfl, (Nat.zero_add _).symm, rfl, rfl⟩ | exact ⟨2, 0, _, _, _, rfl, (Nat.zero_add _).symm, rfl, rfl⟩ | exact ⟨3, 0, _, _, _, rfl, (Nat.zero_add _).symm, rfl, rfl⟩ | exact ⟨0, _, 0, _, _, rfl, rfl, rfl, rfl⟩ | exact ⟨1, _, 0, _, _, rfl, rfl, rfl, rfl⟩ | exact ⟨2, _, 0, _, _, rfl, rfl, rfl, rfl⟩ | exact ⟨3, _, 0, _, _, rfl, rfl, rfl, rfl⟩))); conv => whnf))
      refine ⟨hfin H4 H5 b4 c4 ho4 (fun i o h1 h2 => hk40 i o h1 (hk31 i o h1 (hE1.old _ _ h2))) (fun r hr => ?_) (fun r hr => ?_) hU⟩
      · rcases hn4 r hr with ⟨h, _⟩ | ⟨h, _⟩
        · exact .inl h
        · right
          cases hh : H r with
          | none => rfl
          | some o =>
            by_cases e : bl = some r
            · have hq := ho3
              rw [e] at hq
              obtain ⟨_, g, _⟩ := hq.out
              rw [g] at h; cases h
            · rw [hk31 _ _ e (hE1.old _ _ hh)] at h; cases h
      · have hq := ho3
        rw [hr] at hq
        obtain ⟨_, g, _⟩ := hq.out
        exact hd4 _ _ g
    · (conv => whnf); repeat (first | (refine fun (_ : Nat) (_ : _ ≤ _) (_ : _ = none) => ?_; conv => whnf) | (refine drw (by decide +kernel) ?_; conv => whnf) | (refine And.intro ?_ ?_; (focus (first | ((repeat (first | exact trivial | ((conv => whnf); refine And.intro (by first | exact .inr ⟨0, _, _, rfl, rfl, rfl⟩ | exact .inr ⟨1, _, _, rfl, rfl, rfl⟩ | exact .inr ⟨2, _, _, rfl, rfl, rfl⟩ | exact .inr ⟨3, _, _, rfl, rfl, rfl⟩ | assumption) ?_))); done) | ((conv => whnf); first | exact ⟨0, 0, _, _, _, rfl, (Nat.zero_add _).symm, rfl, rfl⟩ | exact ⟨1, 0, _, _, _, rfl, (Nat.zero_add _).symm, rfl, rfl⟩ | exact ⟨2, 0, _, _, _, rfl, (Nat.zero_add _).symm, rfl, rfl⟩ | exact ⟨3, 0, _, _, _, rfl, (Nat.zero_add _).symm, rfl, rfl⟩ | exact ⟨0, _, 0, _, _, rfl, rfl, rfl, rfl⟩ | exact ⟨1, _, 0, _, _, rfl, rfl, rfl, rfl⟩ | exact ⟨2, _, 0, _, _, rfl, rfl, rfl, rfl⟩ | exact ⟨3, _, 0, _, _, rfl, rfl, rfl, rfl⟩))); conv => whnf))
      refine ⟨_, c3', ?_⟩
      (conv => whnf); repeat (first | (refine fun (_ : Nat) (_ : _ ≤ _) (_ : _ = none) => ?_; conv => whnf) | (refine drw (by decide +kernel) ?_; conv => whnf) | (refine And.intro ?_ ?_; (focus (first | ((repeat (first | exact trivial | ((conv => whnf); refine And.intro (by first | exact .inr ⟨0, _, _, rfl, rfl, rfl⟩ | exact .inr ⟨1, _, _, rfl, rfl, rfl⟩ | exact .inr ⟨2, _, _, rfl, rfl, rfl⟩ | exact .inr ⟨3, _, _, rfl, rfl, rfl⟩ | assumption) ?_))); done) | ((conv => whnf); first | exact ⟨0, 0, _, _, _, rfl, (Nat.zero_add _).symm, rfl, rfl⟩ | exact ⟨1, 0, _, _, _, rfl, (Nat.zero_add _).symm, rfl, rfl⟩ | exact ⟨2, 0, _, _, _, rfl, (Nat.zero_add _).symm, rfl, rfl⟩ | exact ⟨3, 0, _, _, _, rfl, (Nat.zero_add _).symm, rfl, rfl⟩ | exact ⟨0, _, 0, _, _, rfl, rfl, rfl, rfl⟩ | exact ⟨1, _, 0, _, _, rfl, rfl, rfl, rfl⟩ | exact ⟨2, _, 0, _, _, rfl, rfl, rfl, rfl⟩ | exact ⟨3, _, 0, _, _, rfl, rfl, rfl, rfl⟩))); conv => whnf))
      refine ⟨?_, ?_⟩
      · (conv => whnf); repeat (first | (refine fun (_ : Nat) (_ : _ ≤ _) (_ : _ = none) => ?_; conv => whnf) | (refine drw (by decide +kernel) ?_; conv => whnf) | (refine And.intro ?_ ?_; (focus (first | ((repeat (first | exact trivial | ((conv => whnf); refine And.intro (by first | exact .inr ⟨0, _, _, rfl, rfl, rfl⟩ | exact .inr ⟨1, _, _, rfl, rfl, rfl⟩ | exact .inr ⟨2, _, _, rfl, rfl, rfl⟩ | exact .inr ⟨3, _, _, rfl, rfl, rfl⟩ | assumption) ?_))); done) | ((conv => whnf); first | exact ⟨0, 0, _, _, _, rfl, (Nat.zero_add _).symm, rfl, rfl⟩ | exact ⟨1, 0, _, _, _, rfl, (Nat.zero_add _).symm, rfl, rfl⟩ | exact ⟨2, 0, _, _, _, rfl, (Nat.zero_add _).symm, rfl, rfl⟩ | exact ⟨3, 0, _, _, _, rfl, (Nat.zero_add _).symm, rfl, rfl⟩ | exact ⟨0, _, 0, _, _, rfl, rfl, rfl, rfl⟩ | exact ⟨1, _, 0, _, _, rfl, rfl, rfl, rfl⟩ | exact ⟨2, _, 0, _, _, rfl, rfl, rfl, rfl⟩ | exact ⟨3, _, 0, _, _, rfl, rfl, rfl, rfl⟩))); conv => whnf))
        refine ⟨by decide, ?_⟩
        intro rn H2 hBn hNn hEn
        (conv => whnf); repeat (first | (refine fun (_ : Nat) (_ : _ ≤ _) (_ : _ = none) => ?_; conv => whnf) | (refine drw (by decide +kernel) ?_; conv => whnf) | (refine And.intro ?_ ?_; (focus (first | ((repeat (first | exact trivial | ((conv => whnf); refine And.intro (by first | exact .inr ⟨0, _, _, rfl, rfl, rfl⟩ | exact .inr ⟨1, _, _, rfl, rfl, rfl⟩ | exact .inr ⟨2, _, _, rfl, rfl, rfl⟩ | exact .inr ⟨3, _, _, rfl, rfl, rfl⟩ | assumption) ?_))); done) | ((conv => whnf); first | exact ⟨0, 0, _, _, _, rfl, (Nat.zero_add _).symm, rfl, rfl⟩ | exact ⟨1, 0, _, _, _, rfl, (Nat.zero_add _).symm, rfl, rfl⟩ | exact ⟨2, 0, _, _, _, rfl, (Nat.zero_add _).symm, rfl, rfl⟩ | exact ⟨3, 0, _, _, _, rfl, (Nat.zero_add _).symm, rfl, rfl⟩ | exact ⟨0, _, 0, _, _, rfl, rfl, rfl, rfl⟩ | exact ⟨1, _, 0, _, _, rfl, rfl, rfl, rfl⟩ | exact ⟨2, _, 0, _, _, rfl, rfl, rfl, rfl⟩ | exact ⟨3, _, 0, _, _, rfl, rfl, rfl, rfl⟩))); conv => whnf))
        refine ⟨⟨KnownC.c ⟨_, _, _, hEn.old _ _ hE1.new, rfl⟩ _, trivial⟩, ?_⟩
        (conv => whnf); repeat (first | (refine fun (_ : Nat) (_ : _ ≤ _) (_ : _ = none) => ?_; conv => whnf) | (refine drw (by decide +kernel) ?_; conv => whnf) | (refine And.intro ?_ ?_; (focus (first | ((repeat (first | exact trivial | ((conv => whnf); refine And.intro (by first | exact .inr ⟨0, _, _, rfl, rfl, rfl⟩ | exact .inr ⟨1, _, _, rfl, rfl, rfl⟩ | exact .inr ⟨2, _, _, rfl, rfl, rfl⟩ | exact .inr ⟨3, _, _, rfl, rfl, rfl⟩ | assumption) ?_))); done) | ((conv => whnf); first | exact ⟨0, 0, _, _, _, rfl, (Nat.zero_add _).symm, rfl, rfl⟩ | exact ⟨1, 0, _, _, _, rfl, (Nat.zero_add _).symm, rfl, rfl⟩ | exact ⟨2, 0, _, _, _, rfl, (Nat.zero_add _).symm, rfl, rfl⟩ | exact ⟨3, 0, _, _, _, rfl, (Nat.zero_add _).symm, rfl, rfl⟩ | exact ⟨0, _, 0, _, _, rfl, rfl, rfl, rfl⟩ | exact ⟨1, _, 0, _, _, rfl, rfl, rfl, rfl⟩ | exact ⟨2, _, 0, _, _, rfl, rfl, rfl, rfl⟩ | exact ⟨3, _, 0, _, _, rfl, rfl, rfl, rfl⟩))); conv => whnf))
        skip
        have hls2 := hls1.mono (H' := H2) (fun r o hr ho => hEn.old _ _ ho)
        (refine VCall.ret (by kernel_rfl) (fun w hs => deleteI_ok (fun v => match v with | .int _ j => decide (j = (b : Int)) | _ => false) w hs hls2 (by omega) (fun v hv => by obtain ⟨k, _, rfl⟩ := List.mem_map.1 hv; exact ⟨rfl, rfl⟩) (by kernel_rfl) (fun v hv w hs => hp1 v hv H2 (fun i o _ h => hEn.old i o h) w hs)) ?_ ?_)
        · rintro i hii
          have hii : bl = some i := hii
          obtain ⟨o, ho⟩ := hi.dom _ (hi.fl _ hii)
          exact ⟨⟨o, hEn.old _ _ (hE1.old _ _ ho)⟩, .inl (hown i hii)⟩
        rintro v H3 hk3 hd3 ⟨k, rfl, ho3⟩
        rw [filter_ints] at ho3
        have hkl : k = (l.filter (fun k => decide (k ≠ (b : Int)))).length := by have := ho3.len; simpa [intsV] using this.symm
        subst hkl
        have hk31 : ∀ i o, bl ≠ some i → H1 i = some o → H3 i = some o := fun i o h1 h2 => hk3 i o (hEn.old _ _ h2) h1
        (conv => whnf); repeat (first | (refine fun (_ : Nat) (_ : _ ≤ _) (_ : _ = none) => ?_; conv => whnf) | (refine drw (by decide +kernel) ?_; conv => whnf) | (refine And.intro ?_ ?_; (focus (first | ((repeat (first | exact trivial | ((conv => whnf); refine And.intro (by first | exact .inr ⟨0, _, _, rfl, rfl, rfl⟩ | exact .inr ⟨1, _, _, rfl, rfl, rfl⟩ | exact .inr ⟨2, _, _, rfl, rfl, rfl⟩ | exact .inr ⟨3, _, _, rfl, rfl, rfl⟩ | assumption) ?_))); done) | ((conv => whnf); first | exact ⟨0, 0, _, _, _, rfl, (Nat.zero_add _).symm, rfl, rfl⟩ | exact ⟨1, 0, _, _, _, rfl, (Nat.zero_add _).symm, rfl, rfl⟩ | exact ⟨2, 0, _, _, _, rfl, (Nat.zero_add _).symm, rfl, rfl⟩ | exact ⟨3, 0, _, _, _, rfl, (Nat.zero_add _).symm, rfl, rfl⟩ | exact ⟨0, _, 0, _, _, rfl, rfl, rfl, rfl⟩ | exact ⟨1, _, 0, _, _, rfl, rfl, rfl, rfl⟩ | exact ⟨2, _, 0, _, _, rfl, rfl, rfl, rfl⟩ | exact ⟨3, _, 0, _, _, rfl, rfl, rfl, rfl⟩))); conv => whnf))
        refine ⟨⟨KnownC.c ⟨_, _, _, hk31 _ _ hrbn hE1.new, rfl⟩ _, trivial⟩, ?_⟩
        (conv => whnf); repeat (first | (refine fun (_ : Nat) (_ : _ ≤ _) (_ : _ = none) => ?_; conv => whnf) | (refine drw (by decide +kernel) ?_; conv => whnf) | (refine And.intro ?_ ?_; (focus (first | ((repeat (first | exact trivial | ((conv => whnf); refine And.intro (by first | exact .inr ⟨0, _, _, rfl, rfl, rfl⟩ | exact .inr ⟨1, _, _, rfl, rfl, rfl⟩ | exact .inr ⟨2, _, _, rfl, rfl, rfl⟩ | exact .inr ⟨3, _, _, rfl, rfl, rfl⟩ | assumption) ?_))); done) | ((conv => whnf); first | exact ⟨0, 0, _, _, _, rfl, (Nat.zero_add _).symm, rfl, rfl⟩ | exact ⟨1, 0, _, _, _, rfl, (Nat.zero_add _).symm, rfl, rfl⟩ | exact ⟨2, 0, _, _, _, rfl, (Nat.zero_add _).symm, rfl, rfl⟩ | exact ⟨3, 0, _, _, _, rfl, (Nat.zero_add _).symm, rfl, rfl⟩ | exact ⟨0, _, 0, _, _, rfl, rfl, rfl, rfl⟩ | exact ⟨1, _, 0, _, _, rfl, rfl, rfl, rfl⟩ | exact ⟨2, _, 0, _, _, rfl, rfl, rfl, rfl⟩ | exact ⟨3, _, 0, _, _, rfl, rfl, rfl, rfl⟩))); conv => whnf))
        have hrn : bl ≠ some rn := fun e => by obtain ⟨o, ho⟩ := hi.dom _ (hi.fl _ e); rw [hE1.none hNn] at ho; cases ho
        conv => whnf
        refine OS.append ho3 (by_ := 8) [kV b] (RdS_one (hk3 _ _ hEn.new hrn) rfl) rfl (fun v hv => by rw [List.mem_singleton.1 hv]; rfl) (by decide) (by omega) rfl (fun r hr => .inl (hown r hr)) ?_
        intro b4 c4 H4 ho4 hk4 hn4 hd4
        (conv => whnf); repeat (first | (refine fun (_ : Nat) (_ : _ ≤ _) (_ : _ = none) => ?_; conv => whnf) | (refine drw (by decide +kernel) ?_; conv => whnf) | (refine And.intro ?_ ?_; (focus (first | ((repeat (first | exact trivial | ((conv => whnf); refine And.intro (by first | exact .inr ⟨0, _, _, rfl, rfl, rfl⟩ | exact .inr ⟨1, _, _, rfl, rfl, rfl⟩ | exact .inr ⟨2, _, _, rfl, rfl, rfl⟩ | exact .inr ⟨3, _, _, rfl, rfl, rfl⟩ | assumption) ?_))); done) | ((conv => whnf); first | exact ⟨0, 0, _, _, _, rfl, (Nat.zero_add _).symm, rfl, rfl⟩ | exact ⟨1, 0, _, _, _, rfl, (Nat.zero_add _).symm, rfl, rfl⟩ | exact ⟨2, 0, _, _, _, rfl, (Nat.zero_add _).symm, rfl, rfl⟩ | exact ⟨3, 0, _, _, _, rfl, (Nat.zero_add _).symm, rfl, rfl⟩ | exact ⟨0, _, 0, _, _, rfl, rfl, rfl, rfl⟩ | exact ⟨1, _, 0, _, _, rfl, rfl, rfl, rfl⟩ | exact ⟨2, _, 0, _, _, rfl, rfl, rfl, rfl⟩ | exact ⟨3, _, 0, _, _, rfl, rfl, rfl, rfl⟩))); conv => whnf))
        have hk40 : ∀ i o, bl ≠ some i → H3 i = some o → H4 i = some o := fun i o h1 h2 => hk4 i o (.inl h1) h2
        refine ⟨⟨KnownC.c ⟨_, _, _, hk40 _ _ hrbn (hk31 _ _ hrbn hE1.new), rfl⟩ _, trivial⟩, ?_⟩
        (conv => whnf); repeat (first | (refine fun (_ : Nat) (_ : _ ≤ _) (_ : _ = none) => ?_; conv => whnf) | (refine drw (by decide +kernel) ?_; conv => whnf) | (refine And.intro ?_ ?_; (focus (first | ((repeat (first | exact trivial | ((conv => whnf); refine And.intro (by first | exact .inr ⟨0, _, _, rfl, rfl, rfl⟩ | exact .inr ⟨1, _, _, rfl, rfl, rfl⟩ | exact .inr ⟨2, _, _, rfl, rfl, rfl⟩ | exact .inr ⟨3, _, _, rfl, rfl, rfl⟩ | assumption) ?_))); done) | ((conv => whnf); first | exact ⟨0, 0, _, _, _, rfl, (Nat.zero_add _).symm, rfl, rfl⟩ | exact ⟨1, 0, _, _, _, rfl, (Nat.zero_add _).symm, rfl, rfl⟩ | exact ⟨2, 0, _, _, _, rfl, (Nat.zero_add _).symm, rfl, rfl⟩ | exact ⟨3, 0, _, _, _, rfl, (Nat.zero_add _).symm, rfl, rfl⟩ | exact ⟨0, _, 0, _, _, rfl, rfl, rfl, rfl⟩ | exact ⟨1, _, 0, _, _, rfl, rfl, rfl, rfl⟩ | exact ⟨2, _, 0, _, _, rfl, rfl, rfl, rfl⟩ | exact ⟨3, _, 0, _, _, rfl, rfl, rfl, rfl⟩))); conv => whnf))
        refine ⟨rfl, _, _, _, hk40 _ _ hblp (hk31 _ _ hblp (hE1.old _ _ hi.cell)), Nat.le_refl 4, .inr (.inl (Nat.zero_le _)), .inl ((hF p).2 (.inr hi.fp)), (fun v hv => by rw [List.mem_singleton.1 hv]; rfl), ?_⟩
        intro H5 hU
        (conv => whnf); repeat (first | (refine fun (_ : Nat) (_ : _ ≤ _) (_ : _ = none) => ?_; conv => whnf) | (refine drw (by decide +kernel) ?_; conv => whnf) | (refine And.intro ?_ ?_; (focus (first | ((repeat (first | exact trivial | ((conv => whnf); refine And.intro (by first | exact .inr ⟨0, _, _, rfl, rfl, rfl⟩ | exact .inr ⟨1, _, _, rfl, rfl, rfl⟩ | exact .inr ⟨2, _, _, rfl, rfl, rfl⟩ | exact .inr ⟨3, _, _, rfl, rfl, rfl⟩ | assumption) ?_))); done) | ((conv => whnf); first | exact ⟨0, 0, _, _, _, rfl, (Nat.zero_add _).symm, rfl, rfl⟩ | exact ⟨1, 0, _, _, _, rfl, (Nat.zero_add _).symm, rfl, rfl⟩ | exact ⟨2, 0, _, _, _, rfl, (Nat.zero_add _).symm, rfl, rfl⟩ | exact ⟨3, 0, _, _, _, rfl, (Nat.zero_add _).symm, rfl, rfl⟩ | exact ⟨0, _, 0, _, _, rfl, rfl, rfl, rfl⟩ | exact ⟨1, _, 0, _, _, rfl, rfl, rfl, rfl⟩ | exact ⟨2, _, 0, _, _, rfl, rfl, rfl, rfl⟩ | exact ⟨3, _, 0, _, _, rfl, rfl, rfl, rfl⟩))); conv => whnf))
        refine ⟨⟨KnownC.c ⟨_, _, _, hU.old _ _ hrp (hk40 _ _ hrbn (hk31 _ _ hrbn hE1.new)), rfl⟩ _, trivial⟩, ?_⟩
        (conv => whnf); repeat (first | (refine fun (_ : Nat) (_ : _ ≤ _) (_ : _ = none) => ?_; conv => whnf) | (refine drw (by decide +kernel) ?_; conv => whnf) | (refine And.intro ?_ ?_; (focus (first | ((repeat (first | exact trivial | ((conv => whnf); refine And.intro (by first | exact .inr ⟨0, _, _, rfl, rfl, rfl⟩ | exact .inr ⟨1, _, _, rfl, rfl, rfl⟩ | exact .inr ⟨2, _, _, rfl, rfl, rfl⟩ | exact .inr ⟨3, _, _, rfl, rfl, rfl⟩ | assumption) ?_))); done) | ((conv => whnf); first | exact ⟨0, 0, _, _, _, rfl, (Nat.zero_add _).symm, rfl, rfl⟩ | exact ⟨1, 0, _, _, _, rfl, (Nat.zero_add _).symm, rfl, rfl⟩ | exact ⟨2, 0, _, _, _, rfl, (Nat.zero_add _).symm, rfl, rfl⟩ | exact ⟨3, 0, _, _, _, rfl, (Nat.zero_add _).symm, rfl, rfl⟩ | exact ⟨0, _, 0, _, _, rfl, rfl, rfl, rfl⟩ | exact ⟨1, _, 0, _, _, rfl, rfl, rfl, rfl⟩ | exact ⟨2, _, 0, _, _, rfl, rfl, rfl, rfl⟩ | exact ⟨3, _, 0, _, _, rfl, rfl, rfl, rfl⟩))); conv => whnf))
        refine ⟨hfin H4 H5 b4 c4 ho4 (fun i o h1 h2 => hk40 i o h1 (hk31 i o h1 (hE1.old _ _ h2))) (fun r hr => ?_) (fun r hr => ?_) hU⟩
        · rcases hn4 r hr with ⟨h, _⟩ | ⟨h, _⟩
          · exact .inl h
          · right
            cases hh : H r with
            | none => rfl
            | some o =>
              by_cases e : bl = some r
              · have hq := ho3
                rw [e] at hq
                obtain ⟨_, g, _⟩ := hq.out
                rw [g] at h; cases h
              · rw [hk31 _ _ e (hE1.old _ _ hh)] at h; cases h
        · have hq := ho3
          rw [hr] at hq
          obtain ⟨_, g, _⟩ := hq.out
          exact hd4 _ _ g
      · (conv => whnf); repeat (first | (refine fun (_ : Nat) (_ : _ ≤ _) (_ : _ = none) => ?_; conv => whnf) | (refine drw (by decide +kernel) ?_; conv => whnf) | (refine And.intro ?_ ?_; (focus (first | ((repeat (first | exact trivial | ((conv => whnf); refine And.intro (by first | exact .inr ⟨0, _, _, rfl, rfl, rfl⟩ | exact .inr ⟨1, _, _, rfl, rfl, rfl⟩ | exact .inr ⟨2, _, _, rfl, rfl, rfl⟩ | exact .inr ⟨3, _, _, rfl, rfl, rfl⟩ | assumption) ?_))); done) | ((conv => whnf); first | exact ⟨0, 0, _, _, _, rfl, (Nat.zero_add _).symm, rfl, rfl⟩ | exact ⟨1, 0, _, _, _, rfl, (Nat.zero_add _).symm, rfl, rfl⟩ | exact ⟨2, 0, _, _, _, rfl, (Nat.zero_add _).symm, rfl, rfl⟩ | exact ⟨3, 0, _, _, _, rfl, (Nat.zero_add _).symm, rfl, rfl⟩ | exact ⟨0, _, 0, _, _, rfl, rfl, rfl, rfl⟩ | exact ⟨1, _, 0, _, _, rfl, rfl, rfl, rfl⟩ | exact ⟨2, _, 0, _, _, rfl, rfl, rfl, rfl⟩ | exact ⟨3, _, 0, _, _, rfl, rfl, rfl, rfl⟩))); conv => whnf))
        (refine VCall.ret (by kernel_rfl) (fun w hs => deleteI_ok (fun v => match v with | .int _ j => decide (j = (b : Int)) | _ => false) w hs hls1 (by omega) (fun v hv => by obtain ⟨k, _, rfl⟩ := List.mem_map.1 hv; exact ⟨rfl, rfl⟩) (by kernel_rfl) (fun v hv w hs => hp1 v hv H1 (fun i o _ h => h) w hs)) ?_ ?_)
        · rintro i hii
          have hii : bl = some i := hii
          obtain ⟨o, ho⟩ := hi.dom _ (hi.fl _ hii)
          exact ⟨⟨o, hE1.old _ _ ho⟩, .inl (hown i hii)⟩
        rintro v H2 hk2 hd2 ⟨k, rfl, ho2⟩
        rw [filter_ints] at ho2
        have hkl : k = (l.filter (fun k => decide (k ≠ (b : Int)))).length := by have := ho2.len; simpa [intsV] using this.symm
        subst hkl
        have hk21 : ∀ i o, bl ≠ some i → H1 i = some o → H2 i = some o := fun i o h1 h2 => hk2 i o h2 h1
        (conv => whnf); repeat (first | (refine fun (_ : Nat) (_ : _ ≤ _) (_ : _ = none) => ?_; conv => whnf) | (refine drw (by decide +kernel) ?_; conv => whnf) | (refine And.intro ?_ ?_; (focus (first | ((repeat (first | exact trivial | ((conv => whnf); refine And.intro (by first | exact .inr ⟨0, _, _, rfl, rfl, rfl⟩ | exact .inr ⟨1, _, _, rfl, rfl, rfl⟩ | exact .inr ⟨2, _, _, rfl, rfl, rfl⟩ | exact .inr ⟨3, _, _, rfl, rfl, rfl⟩ | assumption) ?_))); done) | ((conv => whnf); first | exact ⟨0, 0, _, _, _, rfl, (Nat.zero_add _).symm, rfl, rfl⟩ | exact ⟨1, 0, _, _, _, rfl, (Nat.zero_add _).symm, rfl, rfl⟩ | exact ⟨2, 0, _, _, _, rfl, (Nat.zero_add _).symm, rfl, rfl⟩ | exact ⟨3, 0, _, _, _, rfl, (Nat.zero_add _).symm, rfl, rfl⟩ | exact ⟨0, _, 0, _, _, rfl, rfl, rfl, rfl⟩ | exact ⟨1, _, 0, _, _, rfl, rfl, rfl, rfl⟩ | exact ⟨2, _, 0, _, _, rfl, rfl, rfl, rfl⟩ | exact ⟨3, _, 0, _, _, rfl, rfl, rfl, rfl⟩))); conv => whnf))
        refine ⟨⟨KnownC.c ⟨_, _, _, hk21 _ _ hrbn hE1.new, rfl⟩ _, trivial⟩, ?_⟩
        (conv => whnf); repeat (first | (refine fun (_ : Nat) (_ : _ ≤ _) (_ : _ = none) => ?_; conv => whnf) | (refine drw (by decide +kernel) ?_; conv => whnf) | (refine And.intro ?_ ?_; (focus (first | ((repeat (first | exact trivial | ((conv => whnf); refine And.intro (by first | exact .inr ⟨0, _, _, rfl, rfl, rfl⟩ | exact .inr ⟨1, _, _, rfl, rfl, rfl⟩ | exact .inr ⟨2, _, _, rfl, rfl, rfl⟩ | exact .inr ⟨3, _, _, rfl, rfl, rfl⟩ | assumption) ?_))); done) | ((conv => whnf); first | exact ⟨0, 0, _, _, _, rfl, (Nat.zero_add _).symm, rfl, rfl⟩ | exact ⟨1, 0, _, _, _, rfl, (Nat.zero_add _).symm, rfl, rfl⟩ | exact ⟨2, 0, _, _, _, rfl, (Nat.zero_add _).symm, rfl, rfl⟩ | exact ⟨3, 0, _, _, _, rfl, (Nat.zero_add _).symm, rfl, rfl⟩ | exact ⟨0, _, 0, _, _, rfl, rfl, rfl, rfl⟩ | exact ⟨1, _, 0, _, _, rfl, rfl, rfl, rfl⟩ | exact ⟨2, _, 0, _, _, rfl, rfl, rfl, rfl⟩ | exact ⟨3, _, 0, _, _, rfl, rfl, rfl, rfl⟩))); conv => whnf))
        refine ⟨by decide, ?_⟩
        intro rn H3 hBn hNn hEn
        (conv => whnf); repeat (first | (refine fun (_ : Nat) (_ : _ ≤ _) (_ : _ = none) => ?_; conv => whnf) | (refine drw (by decide +kernel) ?_; conv => whnf) | (refine And.intro ?_ ?_; (focus (first | ((repeat (first | exact trivial | ((conv => whnf); refine And.intro (by first | exact .inr ⟨0, _, _, rfl, rfl, rfl⟩ | exact .inr ⟨1, _, _, rfl, rfl, rfl⟩ | exact .inr ⟨2, _, _, rfl, rfl, rfl⟩ | exact .inr ⟨3, _, _, rfl, rfl, rfl⟩ | assumption) ?_))); done) | ((conv => whnf); first | exact ⟨0, 0, _, _, _, rfl, (Nat.zero_add _).symm, rfl, rfl⟩ | exact ⟨1, 0, _, _, _, rfl, (Nat.zero_add _).symm, rfl, rfl⟩ | exact ⟨2, 0, _, _, _, rfl, (Nat.zero_add _).symm, rfl, rfl⟩ | exact ⟨3, 0, _, _, _, rfl, (Nat.zero_add _).symm, rfl, rfl⟩ | exact ⟨0, _, 0, _, _, rfl, rfl, rfl, rfl⟩ | exact ⟨1, _, 0, _, _, rfl, rfl, rfl, rfl⟩ | exact ⟨2, _, 0, _, _, rfl, rfl, rfl, rfl⟩ | exact ⟨3, _, 0, _, _, rfl, rfl, rfl, rfl⟩))); conv => whnf))
        have ho3 := ho2.mono (H' := H3) (fun r o hr ho => hEn.old _ _ ho)
        have hk31 : ∀ i o, bl ≠ some i → H1 i = some o → H3 i = some o := fun i o h1 h2 => hEn.old _ _ (hk21 i o h1 h2)
        refine ⟨⟨KnownC.c ⟨_, _, _, hk31 _ _ hrbn hE1.new, rfl⟩ _, trivial⟩, ?_⟩
        (conv => whnf); repeat (first | (refine fun (_ : Nat) (_ : _ ≤ _) (_ : _ = none) => ?_; conv => whnf) | (refine drw (by decide +kernel) ?_; conv => whnf) | (refine And.intro ?_ ?_; (focus (first | ((repeat (first | exact trivial | ((conv => whnf); refine And.intro (by first | exact .inr ⟨0, _, _, rfl, rfl, rfl⟩ | exact .inr ⟨1, _, _, rfl, rfl, rfl⟩ | exact .inr ⟨2, _, _, rfl, rfl, rfl⟩ | exact .inr ⟨3, _, _, rfl, rfl, rfl⟩ | assumption) ?_))); done) | ((conv => whnf); first | exact ⟨0, 0, _, _, _, rfl, (Nat.zero_add _).symm, rfl, rfl⟩ | exact ⟨1, 0, _, _, _, rfl, (Nat.zero_add _).symm, rfl, rfl⟩ | exact ⟨2, 0, _, _, _, rfl, (Nat.zero_add _).symm, rfl, rfl⟩ | exact ⟨3, 0, _, _, _, rfl, (Nat.zero_add _).symm, rfl, rfl⟩ | exact ⟨0, _, 0, _, _, rfl, rfl, rfl, rfl⟩ | exact ⟨1, _, 0, _, _, rfl, rfl, rfl, rfl⟩ | exact ⟨2, _, 0, _, _, rfl, rfl, rfl, rfl⟩ | exact ⟨3, _, 0, _, _, rfl, rfl, rfl, rfl⟩))); conv => whnf))
        conv => whnf
        refine OS.append ho3 (by_ := 8) [kV b] (RdS_one hEn.new rfl) rfl (fun v hv => by rw [List.mem_singleton.1 hv]; rfl) (by decide) (by omega) rfl (fun r hr => .inl (hown r hr)) ?_
        intro b4 c4 H4 ho4 hk4 hn4 hd4
        (conv => whnf); repeat (first | (refine fun (_ : Nat) (_ : _ ≤ _) (_ : _ = none) => ?_; conv => whnf) | (refine drw (by decide +kernel) ?_; conv => whnf) | (refine And.intro ?_ ?_; (focus (first | ((repeat (first | exact trivial | ((conv => whnf); refine And.intro (by first | exact .inr ⟨0, _, _, rfl, rfl, rfl⟩ | exact .inr ⟨1, _, _, rfl, rfl, rfl⟩ | exact .inr ⟨2, _, _, rfl, rfl, rfl⟩ | exact .inr ⟨3, _, _, rfl, rfl, rfl⟩ | assumption) ?_))); done) | ((conv => whnf); first | exact ⟨0, 0, _, _, _, rfl, (Nat.zero_add _).symm, rfl, rfl⟩ | exact ⟨1, 0, _, _, _, rfl, (Nat.zero_add _).symm, rfl, rfl⟩ | exact ⟨2, 0, _, _, _, rfl, (Nat.zero_add _).symm, rfl, rfl⟩ | exact ⟨3, 0, _, _, _, rfl, (Nat.zero_add _).symm, rfl, rfl⟩ | exact ⟨0, _, 0, _, _, rfl, rfl, rfl, rfl⟩ | exact ⟨1, _, 0, _, _, rfl, rfl, rfl, rfl⟩ | exact ⟨2, _, 0, _, _, rfl, rfl, rfl, rfl⟩ | exact ⟨3, _, 0, _, _, rfl, rfl, rfl, rfl⟩))); conv => whnf))
        have hk40 : ∀ i o, bl ≠ some i → H3 i = some o → H4 i = some o := fun i o h1 h2 => hk4 i o (.inl h1) h2
        refine ⟨⟨KnownC.c ⟨_, _, _, hk40 _ _ hrbn (hk31 _ _ hrbn hE1.new), rfl⟩ _, trivial⟩, ?_⟩
        (conv => whnf); repeat (first | (refine fun (_ : Nat) (_ : _ ≤ _) (_ : _ = none) => ?_; conv => whnf) | (refine drw (by decide +kernel) ?_; conv => whnf) | (refine And.intro ?_ ?_; (focus (first | ((repeat (first | exact trivial | ((conv => whnf); refine And.intro (by first | exact .inr ⟨0, _, _, rfl, rfl, rfl⟩ | exact .inr ⟨1, _, _, rfl, rfl, rfl⟩ | exact .inr ⟨2, _, _, rfl, rfl, rfl⟩ | exact .inr ⟨3, _, _, rfl, rfl, rfl⟩ | assumption) ?_))); done) | ((conv => whnf); first | exact ⟨0, 0, _, _, _, rfl, (Nat.zero_add _).symm, rfl, rfl⟩ | exact ⟨1, 0, _, _, _, rfl, (Nat.zero_add _).symm, rfl, rfl⟩ | exact ⟨2, 0, _, _, _, rfl, (Nat.zero_add _).symm, rfl, rfl⟩ | exact ⟨3, 0, _, _, _, rfl, (Nat.zero_add _).symm, rfl, rfl⟩ | exact ⟨0, _, 0, _, _, rfl, rfl, rfl, rfl⟩ | exact ⟨1, _, 0, _, _, rfl, rfl, rfl, rfl⟩ | exact ⟨2, _, 0, _, _, rfl, rfl, rfl, rfl⟩ | exact ⟨3, _, 0, _, _, rfl, rfl, rfl, rfl⟩))); conv => whnf))
        refine ⟨rfl, _, _, _, hk40 _ _ hblp (hk31 _ _ hblp (hE1.old _ _ hi.cell)), Nat.le_refl 4, .inr (.inl (Nat.zero_le _)), .inl ((hF p).2 (.inr hi.fp)), (fun v hv => by rw [List.mem_singleton.1 hv]; rfl), ?_⟩
        intro H5 hU
        (conv => whnf); repeat (first | (refine fun (_ : Nat) (_ : _ ≤ _) (_ : _ = none) => ?_; conv => whnf) | (refine drw (by decide +kernel) ?_; conv => whnf) | (refine And.intro ?_ ?_; (focus (first | ((repeat (first | exact trivial | ((conv => whnf); refine And.intro (by first | exact .inr ⟨0, _, _, rfl, rfl, rfl⟩ | exact .inr ⟨1, _, _, rfl, rfl, rfl⟩ | exact .inr ⟨2, _, _, rfl, rfl, rfl⟩ | exact .inr ⟨3, _, _, rfl, rfl, rfl⟩ | assumption) ?_))); done) | ((conv => whnf); first | exact ⟨0, 0, _, _, _, rfl, (Nat.zero_add _).symm, rfl, rfl⟩ | exact ⟨1, 0, _, _, _, rfl, (Nat.zero_add _).symm, rfl, rfl⟩ | exact ⟨2, 0, _, _, _, rfl, (Nat.zero_add _).symm, rfl, rfl⟩ | exact ⟨3, 0, _, _, _, rfl, (Nat.zero_add _).symm, rfl, rfl⟩ | exact ⟨0, _, 0, _, _, rfl, rfl, rfl, rfl⟩ | exact ⟨1, _, 0, _, _, rfl, rfl, rfl, rfl⟩ | exact ⟨2, _, 0, _, _, rfl, rfl, rfl, rfl⟩ | exact ⟨3, _, 0, _, _, rfl, rfl, rfl, rfl⟩))); conv => whnf))
        refine ⟨⟨KnownC.c ⟨_, _, _, hU.old _ _ hrp (hk40 _ _ hrbn (hk31 _ _ hrbn hE1.new)), rfl⟩ _, trivial⟩, ?_⟩
        (conv => whnf); repeat (first | (refine fun (_ : Nat) (_ : _ ≤ _) (_ : _ = none) => ?_; conv => whnf) | (refine drw (by decide +kernel) ?_; conv => whnf) | (refine And.intro ?_ ?_; (focus (first | ((repeat (first | exact trivial | ((conv => whnf); refine And.intro (by first | exact .inr ⟨0, _, _, rfl, rfl, rfl⟩ | exact .inr ⟨1, _, _, rfl, rfl, rfl⟩ | exact .inr ⟨2, _, _, rfl, rfl, rfl⟩ | exact .inr ⟨3, _, _, rfl, rfl, rfl⟩ | assumption) ?_))); done) | ((conv => whnf); first | exact ⟨0, 0, _, _, _, rfl, (Nat.zero_add _).symm, rfl, rfl⟩ | exact ⟨1, 0, _, _, _, rfl, (Nat.zero_add _).symm, rfl, rfl⟩ | exact ⟨2, 0, _, _, _, rfl, (Nat.zero_add _).symm, rfl, rfl⟩ | exact ⟨3, 0, _, _, _, rfl, (Nat.zero_add _).symm, rfl, rfl⟩ | exact ⟨0, _, 0, _, _, rfl, rfl, rfl, rfl⟩ | exact ⟨1, _, 0, _, _, rfl, rfl, rfl, rfl⟩ | exact ⟨2, _, 0, _, _, rfl, rfl, rfl, rfl⟩ | exact ⟨3, _, 0, _, _, rfl, rfl, rfl, rfl⟩))); conv => whnf))
        refine ⟨hfin H4 H5 b4 c4 ho4 (fun i o h1 h2 => hk40 i o h1 (hk31 i o h1 (hE1.old _ _ h2))) (fun r hr => ?_) (fun r hr => ?_) hU⟩
        · rcases hn4 r hr with ⟨h, _⟩ | ⟨h, _⟩
          · exact .inl h
          · right
            cases hh : H r with
            | none => rfl
            | some o =>
              by_cases e : bl = some r
              · have hq := ho3
                rw [e] at hq
                obtain ⟨_, g, _⟩ := hq.out
                rw [g] at h; cases h
              · rw [hk31 _ _ e (hE1.old _ _ hh)] at h; cases h
        · have hq := ho3
          rw [hr] at hq
          obtain ⟨_, g, _⟩ := hq.out
          exact hd4 _ _ g
  · have hbl : (b : Int) ∉ l := fun hin => (hi.mem b).1 hin hn
    have hroom := room_lt hi.nd (fun k hk => by
      cases hfk : f k with
      | none => exact ((hi.mem k).1 hk hfk).elim
      | some v => obtain ⟨i, e1, hin, _⟩ := hi.buf k v hfk; exact ⟨i, e1, hin⟩) hb hbl hi.most.1
    have hown : ∀ i, bl = some i → F i := fun i e => (hF i).2 (.inr (hi.fl _ e))
    (conv => whnf); repeat first | (refine drw (by decide +kernel) ?_; conv => whnf) | (refine fun (_ : Nat) (_ : _ ≤ _) (_ : _ = none) => ?_; conv => whnf)
    (refine VCall.pure_ (by kernel_rfl) (fun w hs => croom_ok w hs hi hroom) ?_); (conv => whnf); repeat first | (refine drw (by decide +kernel) ?_; conv => whnf) | (refine fun (_ : Nat) (_ : _ ≤ _) (_ : _ = none) => ?_; conv => whnf)
    refine ⟨_, c0, ?_⟩
    (conv => whnf); repeat first | (refine drw (by decide +kernel) ?_; conv => whnf) | (refine fun (_ : Nat) (_ : _ ≤ _) (_ : _ = none) => ?_; conv => whnf)
    (refine VCall.ret (by kernel_rfl) (fun w hs => dread_ok b w hs hi.disk) ?_ ?_)
    · rintro i ⟨⟩
    rintro v H1 hk1 hd1 ⟨hv1⟩
    rw [if_pos (by omega)] at hv1
    obtain ⟨r, rfl, hNr, hbr⟩ := hv1
    have hbr : BO H1 r (d.last b) := hbr
    have hS1 : Sub H H1 := fun i o ho => hk1 i o ho (fun h => h)
    conv => whnf
    intro x hBx hNx
    (conv => whnf); repeat first | (refine drw (by decide +kernel) ?_; conv => whnf) | (refine fun (_ : Nat) (_ : _ ≤ _) (_ : _ = none) => ?_; conv => whnf)
    refine ⟨_, (⟨_, _, _, hS1 _ _ hi.cell, rfl⟩ : RdC H1 p 2 (.map (some m))), ?_⟩
    (conv => whnf); repeat first | (refine drw (by decide +kernel) ?_; conv => whnf) | (refine fun (_ : Nat) (_ : _ ≤ _) (_ : _ = none) => ?_; conv => whnf)
    intro H2 hE2
    conv => whnf
    have hS2 : Sub H H2 := fun i o ho => hE2.old _ _ (hS1 _ _ ho)
    obtain ⟨es, ec, hem, _⟩ := id hi.mo
    have hpm : p ≠ m := fun e => by rw [← e, hi.cell] at hem; cases hem
    have hblm : bl ≠ some m := fun e => by
      have := hi.ls; rw [e] at this
      obtain ⟨arr, g, _⟩ := this.out
      rw [hem] at g; cases g
    have hblp : bl ≠ some p := fun e => by
      have := hi.ls; rw [e] at this
      obtain ⟨arr, g, _⟩ := this.out
      rw [hi.cell] at g; simp at g
    refine (hi.mo.mono (H' := H2) (fun o ho => hS2 _ _ ho)).put (v := pV x) b (.inl ((hF m).2 (.inr hi.fm))) ?_
    intro H3 hk3 hmo3
    (conv => whnf); repeat first | (refine drw (by decide +kernel) ?_; conv => whnf) | (refine fun (_ : Nat) (_ : _ ≤ _) (_ : _ = none) => ?_; conv => whnf)
    have up3 : ∀ i o, i ≠ m → H i = some o → H3 i = some o := fun i o h1 h2 => hk3 i o h1 (hS2 _ _ h2)
    have hxm : x ≠ m := fun e => by rw [e, hS1 _ _ hem] at hNx; cases hNx
    have hrm : r ≠ m := fun e => by rw [e, hem] at hNr; cases hNr
    have hx3 := hk3 _ _ hxm hE2.new
    have hb3 : BO H3 r (d.last b) := hbr.mono (fun o ho => hk3 _ o hrm (hE2.old _ _ ho))
    have hHx : H x = none := hS1.none hNx
    conv => whnf
    refine VDraw.float [(rb, 0, [iV b])] [5, 1004] 6 [0, 1, 2, 3, 5, 4] [7, 8, 9, 10] [4] tabH mixH (by kernel_rfl) ⟨.inr ⟨0, _, _, rfl, rfl, rfl⟩, trivial⟩ ?_
    have c3' : RdC H3 p 3 (slV bl l.length cc) := ⟨_, _, _, up3 _ _ hpm hi.cell, rfl⟩
    have hls3 := hi.ls.mono (H' := H3) (fun r o hr ho => up3 _ _ (fun e => hblm (by rw [hr, e])) ho)
    (conv => whnf); repeat (first | (refine fun (_ : Nat) (_ : _ ≤ _) (_ : _ = none) => ?_; conv => whnf) | (refine drw (by decide +kernel) ?_; conv => whnf) | (refine And.intro ?_ ?_; (focus (first | ((repeat (first | exact trivial | ((conv => whnf); refine And.intro (by first | exact .inr ⟨0, _, _, rfl, rfl, rfl⟩ | exact .inr ⟨1, _, _, rfl, rfl, rfl⟩ | exact .inr ⟨2, _, _, rfl, rfl, rfl⟩ | exact .inr ⟨3, _, _, rfl, rfl, rfl⟩ | assumption) ?_))); done) | ((conv => whnf); first | exact ⟨0, 0, _, _, _, rfl, (Nat.zero_add _).symm, rfl, rfl⟩ | exact ⟨1, 0, _, _, _, rfl, (Nat.zero_add _).symm, rfl, rfl⟩ | exact ⟨2, 0, _, _, _, rfl, (Nat.zero_add _).symm, rfl, rfl⟩ | exact ⟨3, 0, _, _, _, rfl, (Nat.zero_add _).symm, rfl, rfl⟩ | exact ⟨0, _, 0, _, _, rfl, rfl, rfl, rfl⟩ | exact ⟨1, _, 0, _, _, rfl, rfl, rfl, rfl⟩ | exact ⟨2, _, 0, _, _, rfl, rfl, rfl, rfl⟩ | exact ⟨3, _, 0, _, _, rfl, rfl, rfl, rfl⟩))); conv => whnf))
    refine ⟨?_, ?_⟩
    · (conv => whnf); repeat (first | (refine fun (_ : Nat) (_ : _ ≤ _) (_ : _ = none) => ?_; conv => whnf) | (refine drw (by decide +kernel) ?_; conv => whnf) | (refine And.intro ?_ ?_; (focus (first | ((repeat (first | exact trivial | ((conv => whnf); refine And.intro (by first | exact .inr ⟨0, _, _, rfl, rfl, rfl⟩ | exact .inr ⟨1, _, _, rfl, rfl, rfl⟩ | exact .inr ⟨2, _, _, rfl, rfl, rfl⟩ | exact .inr ⟨3, _, _, rfl, rfl, rfl⟩ | assumption) ?_))); done) | ((conv => whnf); first | exact ⟨0, 0, _, _, _, rfl, (Nat.zero_add _).symm, rfl, rfl⟩ | exact ⟨1, 0, _, _, _, rfl, (Nat.zero_add _).symm, rfl, rfl⟩ | exact ⟨2, 0, _, _, _, rfl, (Nat.zero_add _).symm, rfl, rfl⟩ | exact ⟨3, 0, _, _, _, rfl, (Nat.zero_add _).symm, rfl, rfl⟩ | exact ⟨0, _, 0, _, _, rfl, rfl, rfl, rfl⟩ | exact ⟨1, _, 0, _, _, rfl, rfl, rfl, rfl⟩ | exact ⟨2, _, 0, _, _, rfl, rfl, rfl, rfl⟩ | exact ⟨3, _, 0, _, _, rfl, rfl, rfl, rfl⟩))); conv => whnf))
      refine ⟨by decide, ?_⟩
      intro rn H4 hBn hNn hE4
      (conv => whnf); repeat (first | (refine fun (_ : Nat) (_ : _ ≤ _) (_ : _ = none) => ?_; conv => whnf) | (refine drw (by decide +kernel) ?_; conv => whnf) | (refine And.intro ?_ ?_; (focus (first | ((repeat (first | exact trivial | ((conv => whnf); refine And.intro (by first | exact .inr ⟨0, _, _, rfl, rfl, rfl⟩ | exact .inr ⟨1, _, _, rfl, rfl, rfl⟩ | exact .inr ⟨2, _, _, rfl, rfl, rfl⟩ | exact .inr ⟨3, _, _, rfl, rfl, rfl⟩ | assumption) ?_))); done) | ((conv => whnf); first | exact ⟨0, 0, _, _, _, rfl, (Nat.zero_add _).symm, rfl, rfl⟩ | exact ⟨1, 0, _, _, _, rfl, (Nat.zero_add _).symm, rfl, rfl⟩ | exact ⟨2, 0, _, _, _, rfl, (Nat.zero_add _).symm, rfl, rfl⟩ | exact ⟨3, 0, _, _, _, rfl, (Nat.zero_add _).symm, rfl, rfl⟩ | exact ⟨0, _, 0, _, _, rfl, rfl, rfl, rfl⟩ | exact ⟨1, _, 0, _, _, rfl, rfl, rfl, rfl⟩ | exact ⟨2, _, 0, _, _, rfl, rfl, rfl, rfl⟩ | exact ⟨3, _, 0, _, _, rfl, rfl, rfl, rfl⟩))); conv => whnf))
      have hls4 := hls3.mono (H' := H4) (fun r o hr ho => hE4.old _ _ ho)
      refine ⟨_, (⟨_, _, _, hE4.old _ _ (up3 _ _ hpm hi.cell), rfl⟩ : RdC H4 p 3 (slV bl l.length cc)), ?_⟩
      (conv => whnf); repeat (first | (refine fun (_ : Nat) (_ : _ ≤ _) (_ : _ = none) => ?_; conv => whnf) | (refine drw (by decide +kernel) ?_; conv => whnf) | (refine And.intro ?_ ?_; (focus (first | ((repeat (first | exact trivial | ((conv => whnf); refine And.intro (by first | exact .inr ⟨0, _, _, rfl, rfl, rfl⟩ | exact .inr ⟨1, _, _, rfl, rfl, rfl⟩ | exact .inr ⟨2, _, _, rfl, rfl, rfl⟩ | exact .inr ⟨3, _, _, rfl, rfl, rfl⟩ | assumption) ?_))); done) | ((conv => whnf); first | exact ⟨0, 0, _, _, _, rfl, (Nat.zero_add _).symm, rfl, rfl⟩ | exact ⟨1, 0, _, _, _, rfl, (Nat.zero_add _).symm, rfl, rfl⟩ | exact ⟨2, 0, _, _, _, rfl, (Nat.zero_add _).symm, rfl, rfl⟩ | exact ⟨3, 0, _, _, _, rfl, (Nat.zero_add _).symm, rfl, rfl⟩ | exact ⟨0, _, 0, _, _, rfl, rfl, rfl, rfl⟩ | exact ⟨1, _, 0, _, _, rfl, rfl, rfl, rfl⟩ | exact ⟨2, _, 0, _, _, rfl, rfl, rfl, rfl⟩ | exact ⟨3, _, 0, _, _, rfl, rfl, rfl, rfl⟩))); conv => whnf))
      conv => whnf
      refine OS.append hls4 (by_ := 8) [kV b] (RdS_one hE4.new rfl) rfl (fun v hv => by rw [List.mem_singleton.1 hv]; rfl) (by decide) (by omega) rfl (fun r hr => .inl (hown r hr)) ?_
      intro b5 c5 H5 ho5 hk5 hn5 hd5
      (conv => whnf); repeat (first | (refine fun (_ : Nat) (_ : _ ≤ _) (_ : _ = none) => ?_; conv => whnf) | (refine drw (by decide +kernel) ?_; conv => whnf) | (refine And.intro ?_ ?_; (focus (first | ((repeat (first | exact trivial | ((conv => whnf); refine And.intro (by first | exact .inr ⟨0, _, _, rfl, rfl, rfl⟩ | exact .inr ⟨1, _, _, rfl, rfl, rfl⟩ | exact .inr ⟨2, _, _, rfl, rfl, rfl⟩ | exact .inr ⟨3, _, _, rfl, rfl, rfl⟩ | assumption) ?_))); done) | ((conv => whnf); first | exact ⟨0, 0, _, _, _, rfl, (Nat.zero_add _).symm, rfl, rfl⟩ | exact ⟨1, 0, _, _, _, rfl, (Nat.zero_add _).symm, rfl, rfl⟩ | exact ⟨2, 0, _, _, _, rfl, (Nat.zero_add _).symm, rfl, rfl⟩ | exact ⟨3, 0, _, _, _, rfl, (Nat.zero_add _).symm, rfl, rfl⟩ | exact ⟨0, _, 0, _, _, rfl, rfl, rfl, rfl⟩ | exact ⟨1, _, 0, _, _, rfl, rfl, rfl, rfl⟩ | exact ⟨2, _, 0, _, _, rfl, rfl, rfl, rfl⟩ | exact ⟨3, _, 0, _, _, rfl, rfl, rfl, rfl⟩))); conv => whnf))
      have hk50 : ∀ i o, bl ≠ some i → H3 i = some o → H5 i = some o := fun i o h1 h2 => hk5 i o (.inl h1) (hE4.old _ _ h2)
      refine ⟨rfl, _, _, _, hk50 _ _ hblp (up3 _ _ hpm hi.cell), Nat.le_refl 4, .inr (.inl (Nat.zero_le _)), .inl ((hF p).2 (.inr hi.fp)), (fun v hv => by rw [List.mem_singleton.1 hv]; rfl), ?_⟩
      intro H6 hU
      (conv => whnf); repeat (first | (refine fun (_ : Nat) (_ : _ ≤ _) (_ : _ = none) => ?_; conv => whnf) | (refine drw (by decide +kernel) ?_; conv => whnf) | (refine And.intro ?_ ?_; (focus (first | ((repeat (first | exact trivial | ((conv => whnf); refine And.intro (by first | exact .inr ⟨0, _, _, rfl, rfl, rfl⟩ | exact .inr ⟨1, _, _, rfl, rfl, rfl⟩ | exact .inr ⟨2, _, _, rfl, rfl, rfl⟩ | exact .inr ⟨3, _, _, rfl, rfl, rfl⟩ | assumption) ?_))); done) | ((conv => whnf); first | exact ⟨0, 0, _, _, _, rfl, (Nat.zero_add _).symm, rfl, rfl⟩ | exact ⟨1, 0, _, _, _, rfl, (Nat.zero_add _).symm, rfl, rfl⟩ | exact ⟨2, 0, _, _, _, rfl, (Nat.zero_add _).symm, rfl, rfl⟩ | exact ⟨3, 0, _, _, _, rfl, (Nat.zero_add _).symm, rfl, rfl⟩ | exact ⟨0, _, 0, _, _, rfl, rfl, rfl, rfl⟩ | exact ⟨1, _, 0, _, _, rfl, rfl, rfl, rfl⟩ | exact ⟨2, _, 0, _, _, rfl, rfl, rfl, rfl⟩ | exact ⟨3, _, 0, _, _, rfl, rfl, rfl, rfl⟩))); conv => whnf))
      have b5p : b5 ≠ some p := fun e => by
        rw [e] at ho5
        obtain ⟨arr, g, _⟩ := ho5.out
        rw [hk50 _ _ hblp (up3 _ _ hpm hi.cell)] at g; simp at g
      have hxp : x ≠ p := fun e => by rw [e, hi.cell] at hHx; cases hHx
      have hrp : r ≠ p := fun e => by rw [e, hi.cell] at hNr; cases hNr
      have hblx : bl ≠ some x := fun e => by obtain ⟨o, ho⟩ := hi.dom _ (hi.fl _ e); rw [hHx] at ho; cases ho
      have hblr : bl ≠ some r := fun e => by obtain ⟨o, ho⟩ := hi.dom _ (hi.fl _ e); rw [hNr] at ho; cases ho
      have hlen := Dk.last_len hi.disk.ok b
      have hadd := hi.add (H' := H6) (bl' := b5) (c' := c5) (b := b) (x := x) (r := r) hb hn (fun i o h1 h2 h3 h4 => hU.old i o h1 (hk50 i o h3 (up3 i o h2 h4))) hU.new (ho5.mono (fun r o hr ho => hU.old r o (fun e => b5p (by rw [hr, e])) ho))
        (hmo3.mono (fun o ho => hU.old _ _ hpm.symm (hk50 _ _ hblm ho))) (hU.old _ _ hxp (hk50 _ _ hblx hx3)) (((hb3.mono (fun o ho => hU.old _ _ hrp (hk50 _ _ hblr ho))).all' hlen 256 (Nat.le_refl _))) hHx hNr
        (fun r' hr' => by
          rcases hn5 r' hr' with ⟨h, _⟩ | ⟨h, _⟩
          · exact .inl h
          · right
            cases hh : H r' with
            | none => rfl
            | some o =>
              by_cases e : r' = m
              · subst e
                obtain ⟨_, _, g, _⟩ := hmo3
                rw [hE4.old _ _ g] at h; cases h
              · rw [hE4.old _ _ (up3 _ _ e hh)] at h; cases h)
        (fun r' hr' => by
          have hq := hls4
          rw [hr'] at hq
          obtain ⟨_, g, _⟩ := hq.out
          obtain ⟨o', ho'⟩ := hd5 _ _ g
          exact ⟨o', hU.old _ _ (fun e => hblp (by rw [hr', e])) ho'⟩)
      refine ⟨x, fun i => F i ∨ (b5 = some i ∨ i = x ∨ i = r), rfl, ⟨Fd, _, m, most, _, b5, c5, _, hadd, fun i => ?_⟩, ?_, ⟨m, _, ⟨_, _, _, hU.new, rfl⟩, hadd.mo, upd_self _ _ _⟩⟩
      · show (F i ∨ (b5 = some i ∨ i = x ∨ i = r)) ↔ (Fd i ∨ (Fo i ∨ (b5 = some i ∨ i = x ∨ i = r)))
        rw [hF i, or_assoc]
      · refine ⟨?_, fun i h => .inl h⟩
        rintro i (h | h | rfl | rfl)
        · exact .inl h
        · rcases hn5 i h with ⟨e, _⟩ | ⟨e, _⟩
          · exact .inl (hown i e)
          · right
            cases hh : H i with
            | none => rfl
            | some o =>
              by_cases e2 : i = m
              · subst e2
                obtain ⟨_, _, g, _⟩ := hmo3
                rw [hE4.old _ _ g] at e; cases e
              · rw [hE4.old _ _ (up3 _ _ e2 hh)] at e; cases e
        · exact .inr hHx
        · exact .inr hNr
    · (conv => whnf); repeat (first | (refine fun (_ : Nat) (_ : _ ≤ _) (_ : _ = none) => ?_; conv => whnf) | (refine drw (by decide +kernel) ?_; conv => whnf) | (refine And.intro ?_ ?_; (focus (first | ((repeat (first | exact trivial | ((conv => whnf); refine And.intro (by first | exact .inr ⟨0, _, _, rfl, rfl, rfl⟩ | exact .inr ⟨1, _, _, rfl, rfl, rfl⟩ | exact .inr ⟨2, _, _, rfl, rfl, rfl⟩ | exact .inr ⟨3, _, _, rfl, rfl, rfl⟩ | assumption) ?_))); done) | ((conv => whnf); first | exact ⟨0, 0, _, _, _, rfl, (Nat.zero_add _).symm, rfl, rfl⟩ | exact ⟨1, 0, _, _, _, rfl, (Nat.zero_add _).symm, rfl, rfl⟩ | exact ⟨2, 0, _, _, _, rfl, (Nat.zero_add _).symm, rfl, rfl⟩ | exact ⟨3, 0, _, _, _, rfl, (Nat.zero_add _).symm, rfl, rfl⟩ | exact ⟨0, _, 0, _, _, rfl, rfl, rfl, rfl⟩ | exact ⟨1, _, 0, _, _, rfl, rfl, rfl, rfl⟩ | exact ⟨2, _, 0, _, _, rfl, rfl, rfl, rfl⟩ | exact ⟨3, _, 0, _, _, rfl, rfl, rfl, rfl⟩))); conv => whnf))
      refine ⟨_, c3', ?_⟩
      (conv => whnf); repeat (first | (refine fun (_ : Nat) (_ : _ ≤ _) (_ : _ = none) => ?_; conv => whnf) | (refine drw (by decide +kernel) ?_; conv => whnf) | (refine And.intro ?_ ?_; (focus (first | ((repeat (first | exact trivial | ((conv => whnf); refine And.intro (by first | exact .inr ⟨0, _, _, rfl, rfl, rfl⟩ | exact .inr ⟨1, _, _, rfl, rfl, rfl⟩ | exact .inr ⟨2, _, _, rfl, rfl, rfl⟩ | exact .inr ⟨3, _, _, rfl, rfl, rfl⟩ | assumption) ?_))); done) | ((conv => whnf); first | exact ⟨0, 0, _, _, _, rfl, (Nat.zero_add _).symm, rfl, rfl⟩ | exact ⟨1, 0, _, _, _, rfl, (Nat.zero_add _).symm, rfl, rfl⟩ | exact ⟨2, 0, _, _, _, rfl, (Nat.zero_add _).symm, rfl, rfl⟩ | exact ⟨3, 0, _, _, _, rfl, (Nat.zero_add _).symm, rfl, rfl⟩ | exact ⟨0, _, 0, _, _, rfl, rfl, rfl, rfl⟩ | exact ⟨1, _, 0, _, _, rfl, rfl, rfl, rfl⟩ | exact ⟨2, _, 0, _, _, rfl, rfl, rfl, rfl⟩ | exact ⟨3, _, 0, _, _, rfl, rfl, rfl, rfl⟩))); conv => whnf))
      refine ⟨by decide, ?_⟩
      intro rn H4 hBn hNn hE4
      (conv => whnf); repeat (first | (refine fun (_ : Nat) (_ : _ ≤ _) (_ : _ = none) => ?_; conv => whnf) | (refine drw (by decide +kernel) ?_; conv => whnf) | (refine And.intro ?_ ?_; (focus (first | ((repeat (first | exact trivial | ((conv => whnf); refine And.intro (by first | exact .inr ⟨0, _, _, rfl, rfl, rfl⟩ | exact .inr ⟨1, _, _, rfl, rfl, rfl⟩ | exact .inr ⟨2, _, _, rfl, rfl, rfl⟩ | exact .inr ⟨3, _, _, rfl, rfl, rfl⟩ | assumption) ?_))); done) | ((conv => whnf); first | exact ⟨0, 0, _, _, _, rfl, (Nat.zero_add _).symm, rfl, rfl⟩ | exact ⟨1, 0, _, _, _, rfl, (Nat.zero_add _).symm, rfl, rfl⟩ | exact ⟨2, 0, _, _, _, rfl, (Nat.zero_add _).symm, rfl, rfl⟩ | exact ⟨3, 0, _, _, _, rfl, (Nat.zero_add _).symm, rfl, rfl⟩ | exact ⟨0, _, 0, _, _, rfl, rfl, rfl, rfl⟩ | exact ⟨1, _, 0, _, _, rfl, rfl, rfl, rfl⟩ | exact ⟨2, _, 0, _, _, rfl, rfl, rfl, rfl⟩ | exact ⟨3, _, 0, _, _, rfl, rfl, rfl, rfl⟩))); conv => whnf))
      have hls4 := hls3.mono (H' := H4) (fun r o hr ho => hE4.old _ _ ho)
      conv => whnf
      refine OS.append hls4 (by_ := 8) [kV b] (RdS_one hE4.new rfl) rfl (fun v hv => by rw [List.mem_singleton.1 hv]; rfl) (by decide) (by omega) rfl (fun r hr => .inl (hown r hr)) ?_
      intro b5 c5 H5 ho5 hk5 hn5 hd5
      (conv => whnf); repeat (first | (refine fun (_ : Nat) (_ : _ ≤ _) (_ : _ = none) => ?_; conv => whnf) | (refine drw (by decide +kernel) ?_; conv => whnf) | (refine And.intro ?_ ?_; (focus (first | ((repeat (first | exact trivial | ((conv => whnf); refine And.intro (by first | exact .inr ⟨0, _, _, rfl, rfl, rfl⟩ | exact .inr ⟨1, _, _, rfl, rfl, rfl⟩ | exact .inr ⟨2, _, _, rfl, rfl, rfl⟩ | exact .inr ⟨3, _, _, rfl, rfl, rfl⟩ | assumption) ?_))); done) | ((conv => whnf); first | exact ⟨0, 0, _, _, _, rfl, (Nat.zero_add _).symm, rfl, rfl⟩ | exact ⟨1, 0, _, _, _, rfl, (Nat.zero_add _).symm, rfl, rfl⟩ | exact ⟨2, 0, _, _, _, rfl, (Nat.zero_add _).symm, rfl, rfl⟩ | exact ⟨3, 0, _, _, _, rfl, (Nat.zero_add _).symm, rfl, rfl⟩ | exact ⟨0, _, 0, _, _, rfl, rfl, rfl, rfl⟩ | exact ⟨1, _, 0, _, _, rfl, rfl, rfl, rfl⟩ | exact ⟨2, _, 0, _, _, rfl, rfl, rfl, rfl⟩ | exact ⟨3, _, 0, _, _, rfl, rfl, rfl, rfl⟩))); conv => whnf))
      have hk50 : ∀ i o, bl ≠ some i → H3 i = some o → H5 i = some o := fun i o h1 h2 => hk5 i o (.inl h1) (hE4.old _ _ h2)
      refine ⟨rfl, _, _, _, hk50 _ _ hblp (up3 _ _ hpm hi.cell), Nat.le_refl 4, .inr (.inl (Nat.zero_le _)), .inl ((hF p).2 (.inr hi.fp)), (fun v hv => by rw [List.mem_singleton.1 hv]; rfl), ?_⟩
      intro H6 hU
      (conv => whnf); repeat (first | (refine fun (_ : Nat) (_ : _ ≤ _) (_ : _ = none) => ?_; conv => whnf) | (refine drw (by decide +kernel) ?_; conv => whnf) | (refine And.intro ?_ ?_; (focus (first | ((repeat (first | exact trivial | ((conv => whnf); refine And.intro (by first | exact .inr ⟨0, _, _, rfl, rfl, rfl⟩ | exact .inr ⟨1, _, _, rfl, rfl, rfl⟩ | exact .inr ⟨2, _, _, rfl, rfl, rfl⟩ | exact .inr ⟨3, _, _, rfl, rfl, rfl⟩ | assumption) ?_))); done) | ((conv => whnf); first | exact ⟨0, 0, _, _, _, rfl, (Nat.zero_add _).symm, rfl, rfl⟩ | exact ⟨1, 0, _, _, _, rfl, (Nat.zero_add _).symm, rfl, rfl⟩ | exact ⟨2, 0, _, _, _, rfl, (Nat.zero_add _).symm, rfl, rfl⟩ | exact ⟨3, 0, _, _, _, rfl, (Nat.zero_add _).symm, rfl, rfl⟩ | exact ⟨0, _, 0, _, _, rfl, rfl, rfl, rfl⟩ | exact ⟨1, _, 0, _, _, rfl, rfl, rfl, rfl⟩ | exact ⟨2, _, 0, _, _, rfl, rfl, rfl, rfl⟩ | exact ⟨3, _, 0, _, _, rfl, rfl, rfl, rfl⟩))); conv => whnf))
      have b5p : b5 ≠ some p := fun e => by
        rw [e] at ho5
        obtain ⟨arr, g, _⟩ := ho5.out
        rw [hk50 _ _ hblp (up3 _ _ hpm hi.cell)] at g; simp at g
      have hxp : x ≠ p := fun e => by rw [e, hi.cell] at hHx; cases hHx
      have hrp : r ≠ p := fun e => by rw [e, hi.cell] at hNr; cases hNr
      have hblx : bl ≠ some x := fun e => by obtain ⟨o, ho⟩ := hi.dom _ (hi.fl _ e); rw [hHx] at ho; cases ho
      have hblr : bl ≠ some r := fun e => by obtain ⟨o, ho⟩ := hi.dom _ (hi.fl _ e); rw [hNr] at ho; cases ho
      have hlen := Dk.last_len hi.disk.ok b
      have hadd := hi.add (H' := H6) (bl' := b5) (c' := c5) (b := b) (x := x) (r := r) hb hn (fun i o h1 h2 h3 h4 => hU.old i o h1 (hk50 i o h3 (up3 i o h2 h4))) hU.new (ho5.mono (fun r o hr ho => hU.old r o (fun e => b5p (by rw [hr, e])) ho))
        (hmo3.mono (fun o ho => hU.old _ _ hpm.symm (hk50 _ _ hblm ho))) (hU.old _ _ hxp (hk50 _ _ hblx hx3)) (((hb3.mono (fun o ho => hU.old _ _ hrp (hk50 _ _ hblr ho))).all' hlen 256 (Nat.le_refl _))) hHx hNr
        (fun r' hr' => by
          rcases hn5 r' hr' with ⟨h, _⟩ | ⟨h, _⟩
          · exact .inl h
          · right
            cases hh : H r' with
            | none => rfl
            | some o =>
              by_cases e : r' = m
              · subst e
                obtain ⟨_, _, g, _⟩ := hmo3
                rw [hE4.old _ _ g] at h; cases h
              · rw [hE4.old _ _ (up3 _ _ e hh)] at h; cases h)
        (fun r' hr' => by
          have hq := hls4
          rw [hr'] at hq
          obtain ⟨_, g, _⟩ := hq.out
          obtain ⟨o', ho'⟩ := hd5 _ _ g
          exact ⟨o', hU.old _ _ (fun e => hblp (by rw [hr', e])) ho'⟩)
      refine ⟨x, fun i => F i ∨ (b5 = some i ∨ i = x ∨ i = r), rfl, ⟨Fd, _, m, most, _, b5, c5, _, hadd, fun i => ?_⟩, ?_, ⟨m, _, ⟨_, _, _, hU.new, rfl⟩, hadd.mo, upd_self _ _ _⟩⟩
      · show (F i ∨ (b5 = some i ∨ i = x ∨ i = r)) ↔ (Fd i ∨ (Fo i ∨ (b5 = some i ∨ i = x ∨ i = r)))
        rw [hF i, or_assoc]
      · refine ⟨?_, fun i h => .inl h⟩
        rintro i (h | h | rfl | rfl)
        · exact .inl h
        · rcases hn5 i h with ⟨e, _⟩ | ⟨e, _⟩
          · exact .inl (hown i e)
          · right
            cases hh : H i with
            | none => rfl
            | some o =>
              by_cases e2 : i = m
              · subst e2
                obtain ⟨_, _, g, _⟩ := hmo3
                rw [hE4.old _ _ g] at e; cases e
              · rw [hE4.old _ _ (up3 _ _ e2 hh)] at e; cases e
        · exact .inr hHx
        · exact .inr hNr
end Go.Proofs.YtlkgjffffeohdaaGreat
