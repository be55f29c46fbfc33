/- Caches. -/
import Derived.Test.YtlkgjffffeohdaaGreatSlices3
set_option linter.unusedVariables false
set_option linter.unusedSimpArgs false
namespace Go.Proofs.YtlkgjffffeohdaaGreat
open Go Go.Eng Go.Proofs

/-- a block in memory -/
structure BufAt (H : HV) (F : Nat → Prop) (v : Value) (bs : List UInt8) : Prop where
  out : ∃ x r c i, v = pV x ∧ F x ∧ H x = some (.cells #[slV (some r) 256 c, .int .i64 i] 303 (0, 0)) ∧ F r ∧ BS H (some ⟨r, 0, none⟩) 256 c bs

theorem BufAt.mono {H H' : HV} {F F' : Nat → Prop} {v : Value} {bs : List UInt8} (h : BufAt H F v bs)
    (h1 : ∀ x o arr, F x → H x = some o → o = .cells arr 303 (0, 0) → H' x = some o) (h2 : ∀ r arr ty fr k, F r → H r = some (.cells arr ty fr) → arr[0]? = some (.int .u8 k) → H' r = some (.cells arr ty fr)) (hF : ∀ i, F i → F' i) : BufAt H' F' v bs := by
  obtain ⟨x, r, c, i, e1, e2, e3, e4, e5⟩ := h.out
  obtain ⟨arr, ty, fr, k, g1, g2⟩ := e5.cell0 (by decide)
  refine ⟨x, r, c, i, e1, hF _ e2, h1 _ _ _ e2 e3 rfl, hF _ e4, e5.len, e5.le, ?_⟩
  obtain ⟨arr', ty', fr', q1, q2, q3⟩ := e5.rd
  rw [q1] at g1; cases g1
  exact ⟨_, _, _, h2 _ _ _ _ _ e4 q1 g2, q2, q3⟩

structure CIn (H : HV) (Fd Fo : Nat → Prop) (p dp m most : Nat) (f : Int → Option Value) (bl : Option Nat) (c : Nat) (l : List Int) (d : Dk) (val : Nat → List UInt8) : Prop where
  disk : DiskAt H Fd dp d
  dom : ∀ i, Fo i → ∃ o, H i = some o
  sep : ∀ i, Fd i → Fo i → False
  fp : Fo p
  fm : Fo m
  fl : ∀ r, bl = some r → Fo r
  cell : H p = some (.cells #[pV dp, .int .i64 most, .map (some m), slV bl l.length c] 306 (0, 0))
  most : d.n ≤ most ∧ most ≤ 4096
  mo : MO H m f
  ls : OS H 3 1 bl l.length c (intsV l)
  nd : l.Nodup
  mem : ∀ k, k ∈ l ↔ f k ≠ none
  buf : ∀ k v, f k = some v → ∃ b : Nat, k = b ∧ b < d.n ∧ BufAt H Fo v (val b)
  inj : ∀ k k' v, f k = some v → f k' = some v → k = k'
  out : ∀ b : Nat, f b = none → val b = d.last b
  len : ∀ b, (val b).length = 256

/-- a cache over a disk: what each block reads as -/
def CacheAt (H : HV) (F : Nat → Prop) (p dp : Nat) (d : Dk) (val : Nat → List UInt8) : Prop :=
  ∃ Fd Fo m most f bl c l, CIn H Fd Fo p dp m most f bl c l d val ∧ ∀ i, F i ↔ Fd i ∨ Fo i

theorem CacheAt.dom {H : HV} {F : Nat → Prop} {p dp : Nat} {d : Dk} {val : Nat → List UInt8} (h : CacheAt H F p dp d val) : ∀ i, F i → ∃ o, H i = some o := by
  obtain ⟨Fd, Fo, m, most, f, bl, c, l, hi, hF⟩ := h
  intro i hi'
  rcases (hF i).1 hi' with h | h
  · exact hi.disk.dom i h
  · exact hi.dom i h

theorem CIn.mono {H H' : HV} {Fd Fo : Nat → Prop} {p dp m most : Nat} {f : Int → Option Value} {bl : Option Nat} {c : Nat} {l : List Int} {d : Dk} {val : Nat → List UInt8} (h : CIn H Fd Fo p dp m most f bl c l d val) (hd : On Fd H H') (ho : On Fo H H') : CIn H' Fd Fo p dp m most f bl c l d val :=
  ⟨h.disk.mono hd, fun i hi => by obtain ⟨o, hh⟩ := h.dom i hi; exact ⟨o, ho _ _ hi hh⟩, h.sep, h.fp, h.fm, h.fl, ho _ _ h.fp h.cell, h.most, h.mo.mono (fun o => ho _ o h.fm), h.ls.mono (fun r o hr hh => ho _ _ (h.fl r hr) hh), h.nd, h.mem,
    fun k v hk => by obtain ⟨b, e1, e2, e3⟩ := h.buf k v hk; exact ⟨b, e1, e2, e3.mono (fun x o arr hx hh _ => ho _ _ hx hh) (fun r arr ty fr k hr hh _ => ho _ _ hr hh) (fun i hi => hi)⟩, h.inj, h.out, h.len⟩

theorem CacheAt.mono {H H' : HV} {F : Nat → Prop} {p dp : Nat} {d : Dk} {val : Nat → List UInt8} (h : CacheAt H F p dp d val) (hs : On F H H') : CacheAt H' F p dp d val := by
  obtain ⟨Fd, Fo, m, most, f, bl, c, l, hi, hF⟩ := h
  exact ⟨Fd, Fo, m, most, f, bl, c, l, hi.mono (hs.sub (fun i h => (hF i).2 (.inl h))) (hs.sub (fun i h => (hF i).2 (.inr h))), hF⟩

/-- other numbers of held blocks -/
theorem CIn.relist {H H' : HV} {Fd Fo : Nat → Prop} {p dp m most : Nat} {f : Int → Option Value} {bl bl' : Option Nat} {c c' : Nat} {l l' : List Int} {d : Dk} {val : Nat → List UInt8} (h : CIn H Fd Fo p dp m most f bl c l d val)
    (hk : ∀ i o, i ≠ p → bl ≠ some i → H i = some o → H' i = some o) (hp : H' p = some (.cells #[pV dp, .int .i64 most, .map (some m), slV bl' l'.length c'] 306 (0, 0))) (hl : OS H' 3 1 bl' l'.length c' (intsV l')) (hn : l'.Nodup) (hm : ∀ k, k ∈ l' ↔ k ∈ l)
    (hb : ∀ r, bl' = some r → bl = some r ∨ H r = none) (hbd : ∀ r, bl = some r → ∃ o, H' r = some o) : CIn H' Fd (fun i => Fo i ∨ bl' = some i) p dp m most f bl' c' l' d val := by
  obtain ⟨es, ec, hem, _⟩ := id h.mo
  have hpm : m ≠ p := fun e => by rw [e, h.cell] at hem; cases hem
  have hblm : bl ≠ some m := fun e => by
    have := h.ls; rw [e] at this
    obtain ⟨arr, g, _⟩ := this.out
    rw [hem] at g; cases g
  refine ⟨h.disk.mono (fun i o hi ho => hk i o (fun e => h.sep i hi (e ▸ h.fp)) (fun e => h.sep i hi (h.fl i e)) ho), fun i hi => ?_, fun i hi hi2 => ?_, .inl h.fp, .inl h.fm, fun r hr => .inr hr, hp, h.most, h.mo.mono (fun o => hk _ o hpm hblm), hl, hn, fun k => (hm k).trans (h.mem k), fun k v hkv => ?_, h.inj, h.out, h.len⟩
  · rcases hi with hi | hi
    · obtain ⟨o, ho⟩ := h.dom i hi
      by_cases e : i = p
      · subst e; exact ⟨_, hp⟩
      · by_cases e2 : bl = some i
        · exact hbd i e2
        · exact ⟨o, hk i o e e2 ho⟩
    · have := hl; rw [hi] at this
      obtain ⟨arr, g, _⟩ := this.out
      exact ⟨_, g⟩
  · rcases hi2 with hi2 | hi2
    · exact h.sep i hi hi2
    · rcases hb i hi2 with e | e
      · exact h.sep i hi (h.fl i e)
      · obtain ⟨o, ho⟩ := h.disk.dom i hi; rw [e] at ho; cases ho
  · obtain ⟨b, e1, e2, e3⟩ := h.buf k v hkv
    refine ⟨b, e1, e2, e3.mono (fun x o arr hx ho e => hk x o (fun e' => ?_) (fun e' => ?_) ho) (fun r arr ty fr k' hr ho e => hk r _ (fun e' => ?_) (fun e' => ?_) ho) (fun i hi => .inl hi)⟩
    · rw [e', h.cell, e] at ho
      simp at ho
    · have hls := h.ls; rw [e'] at hls
      obtain ⟨ar, g, _⟩ := hls.out
      rw [g, e] at ho
      simp at ho
    · rw [e', h.cell] at ho
      cases ho
      simp [pV] at e
    · have hls := h.ls; rw [e'] at hls
      obtain ⟨ar, g, g2, g3⟩ := hls.out
      rw [ho] at g; cases g
      have hlen : 0 < l.length := List.length_pos_of_mem ((h.mem k).2 (by rw [hkv]; simp))
      have h0 : (intsV l)[0]? = some (.int .u8 k') := by
        rw [g3, Nat.mul_one, List.getElem?_take_of_lt hlen]
        simpa using e
      cases l with
      | nil => simp at hlen
      | cons a l => simp [intsV] at h0
end Go.Proofs.YtlkgjffffeohdaaGreat
