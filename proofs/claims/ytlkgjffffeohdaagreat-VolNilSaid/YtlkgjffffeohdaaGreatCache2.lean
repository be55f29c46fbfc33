/- Caches: a block is asked. -/
import Derived.Test.YtlkgjffffeohdaaGreatCache
set_option linter.unusedVariables false
set_option linter.unusedSimpArgs false
namespace Go.Proofs.YtlkgjffffeohdaaGreat
open Go Go.Eng Go.Proofs

theorem cnew_ok {H : HV} {Fd : Nat → Prop} {dp : Nat} {d : Dk} (most : Nat) (w : World) (hs : ∀ i o, H i = some o → w.heap[i]? = some o) (hd : DiskAt H Fd dp d) (h1 : 1 ≤ most) (h2 : d.n ≤ most) (h3 : most ≤ 4096) :
    Calls Tryz.prog 189 #[pV dp, iV most] w (Ret H (fun _ => False) (fun v H1 => Is (∃ p F, v = .tuple #[pV p, iV 0] ∧ CacheAt H1 F p dp d d.last ∧ Grow H Fd F)) w) := by
  refine fn_ret (args := [pV dp, iV most]) tabH Tryz.func189 rfl (by kernel_rfl)  hs ?_
  (conv => whnf); repeat first | (refine drw (by decide +kernel) ?_; conv => whnf) | (refine fun (_ : Nat) (_ : _ ≤ _) (_ : _ = none) => ?_; conv => whnf)
  refine vif_dec (fun h4 => ?_) (fun h4 => ?_)
  · exact (by omega : False).elim
  (conv => whnf); repeat first | (refine drw (by decide +kernel) ?_; conv => whnf) | (refine fun (_ : Nat) (_ : _ ≤ _) (_ : _ = none) => ?_; conv => whnf)
  refine vif_dec (fun h5 => ?_) (fun h5 => ?_)
  · exact (by omega : False).elim
  (conv => whnf); repeat first | (refine drw (by decide +kernel) ?_; conv => whnf) | (refine fun (_ : Nat) (_ : _ ≤ _) (_ : _ = none) => ?_; conv => whnf)
  intro m H1 hB1 hN1 hE1
  conv => whnf
  intro p hBp hNp
  conv => whnf
  intro H2 hE2
  conv => whnf
  have hm := hE2.old _ _ hE1.new
  refine ⟨p, fun i => Fd i ∨ (i = p ∨ i = m), rfl, ⟨Fd, fun i => i = p ∨ i = m, m, most, fun _ => none, none, 0, [], ⟨hd.mono ((hE1.sub.on Fd).trans (hE2.sub.on Fd)), ?_, ?_, .inl rfl, .inr rfl, (fun r hr => by cases hr), hE2.new, ⟨h2, h3⟩, MO.new hm, OS.nil _ _ _, List.nodup_nil, (fun k => by simp), (fun k v hk => by cases hk), (fun k k' v hk => by cases hk), fun b _ => rfl, Dk.last_len hd.ok⟩, fun i => Iff.rfl⟩, ?_⟩
  · rintro i (rfl | rfl)
    · exact ⟨_, hE2.new⟩
    · exact ⟨_, hm⟩
  · rintro i hi (rfl | rfl)
    · obtain ⟨o, ho⟩ := hd.dom i hi; rw [hE1.none hNp] at ho; cases ho
    · obtain ⟨o, ho⟩ := hd.dom i hi; rw [hN1] at ho; cases ho
  · refine ⟨?_, fun i h => .inl h⟩
    rintro i (hi | rfl | rfl)
    · exact .inl hi
    · exact .inr (hE1.none hNp)
    · exact .inr hN1

theorem CIn.c0 {H : HV} {Fd Fo : Nat → Prop} {p dp m most : Nat} {f : Int → Option Value} {bl : Option Nat} {c : Nat} {l : List Int} {d : Dk} {val : Nat → List UInt8} (h : CIn H Fd Fo p dp m most f bl c l d val) :
    RdC H p 0 (pV dp) ∧ RdC H p 1 (iV most) ∧ RdC H p 2 (.map (some m)) ∧ RdC H p 3 (slV bl l.length c) :=
  ⟨⟨_, _, _, h.cell, rfl⟩, ⟨_, _, _, h.cell, rfl⟩, ⟨_, _, _, h.cell, rfl⟩, ⟨_, _, _, h.cell, rfl⟩⟩

def codeM (n : Nat) (b : Int) (k : Nat) (ns : List Int) (kk : Nat) : Int := if 0 ≤ b ∧ b < n then (if 0 < kk ∧ ns.contains (k : Int) = false then 4 else 0) else 3

theorem cmay_ok {H : HV} {F : Nat → Prop} {p dp : Nat} {d : Dk} {val : Nat → List UInt8} {a a2 : Option Addr} {k kc n c : Nat} {ns : List Int} (b : Int) (w : World) (hs : ∀ i o, H i = some o → w.heap[i]? = some o) (hc : CacheAt H F p dp d val)
    (hv : RdS H 1 n (.slice a2 n c) (intsV ns)) (hl : ns.length = n) (hn : n < 4611686018427387904) :
    Calls Tryz.prog 230 #[pV p, iV b, .slice a k kc, .slice a2 n c] w (RetP (iV (codeM d.n b k ns n)) w) := by
  obtain ⟨Fd, Fo, m, most, f, bl, cc, l, hi, hF⟩ := hc
  obtain ⟨c0, c1, c2, c3⟩ := hi.c0
  refine fn_pure (args := [pV p, iV b, .slice a k kc, .slice a2 n c]) tabH Tryz.func230 rfl (by kernel_rfl)  hs ?_
  have hin : ¬ b < 0 ∧ ¬ b ≥ d.n → (0 ≤ b ∧ b < d.n) := by omega
  (conv => whnf); repeat first | (refine drw (by decide +kernel) ?_; conv => whnf) | (refine fun (_ : Nat) (_ : _ ≤ _) (_ : _ = none) => ?_; conv => whnf)
  refine vif_dec (fun h1 => ?_) (fun h1 => ?_)
  · (conv => whnf); repeat first | (refine drw (by decide +kernel) ?_; conv => whnf) | (refine fun (_ : Nat) (_ : _ ≤ _) (_ : _ = none) => ?_; conv => whnf)
    unfold codeM; rw [if_neg (by omega)]; rfl
  · (conv => whnf); repeat first | (refine drw (by decide +kernel) ?_; conv => whnf) | (refine fun (_ : Nat) (_ : _ ≤ _) (_ : _ = none) => ?_; conv => whnf)
    refine ⟨_, c0, ?_⟩
    (conv => whnf); repeat first | (refine drw (by decide +kernel) ?_; conv => whnf) | (refine fun (_ : Nat) (_ : _ ≤ _) (_ : _ = none) => ?_; conv => whnf)
    (refine VCall.pure_ (by kernel_rfl) (fun w hs => dlen_ok w hs hi.disk) ?_); (conv => whnf); repeat first | (refine drw (by decide +kernel) ?_; conv => whnf) | (refine fun (_ : Nat) (_ : _ ≤ _) (_ : _ = none) => ?_; conv => whnf)
    refine vif_dec (fun h2 => ?_) (fun h2 => ?_)
    · (conv => whnf); repeat first | (refine drw (by decide +kernel) ?_; conv => whnf) | (refine fun (_ : Nat) (_ : _ ≤ _) (_ : _ = none) => ?_; conv => whnf)
      unfold codeM; rw [if_neg (by omega)]; rfl
    · (conv => whnf); repeat first | (refine drw (by decide +kernel) ?_; conv => whnf) | (refine fun (_ : Nat) (_ : _ ≤ _) (_ : _ = none) => ?_; conv => whnf)
      unfold codeM
      rw [if_pos (hin ⟨h1, h2⟩)]
      refine vif_dec (fun h3 => ?_) (fun h3 => ?_)
      · (conv => whnf); repeat first | (refine drw (by decide +kernel) ?_; conv => whnf) | (refine fun (_ : Nat) (_ : _ ≤ _) (_ : _ = none) => ?_; conv => whnf)
        (refine VCall.pure_ (by kernel_rfl) (fun w hs => containsN_ok (k : Int) w hs hv hl hn) ?_); (conv => whnf); repeat first | (refine drw (by decide +kernel) ?_; conv => whnf) | (refine fun (_ : Nat) (_ : _ ≤ _) (_ : _ = none) => ?_; conv => whnf)
        have h30 : 0 < n := by omega
        cases hcn : ns.contains (k : Int) with
        | true => 
          (conv => whnf); repeat first | (refine drw (by decide +kernel) ?_; conv => whnf) | (refine fun (_ : Nat) (_ : _ ≤ _) (_ : _ = none) => ?_; conv => whnf)
          rw [if_neg (by simp)]; rfl
        | false =>
          (conv => whnf); repeat first | (refine drw (by decide +kernel) ?_; conv => whnf) | (refine fun (_ : Nat) (_ : _ ≤ _) (_ : _ = none) => ?_; conv => whnf)
          rw [if_pos ⟨h30, rfl⟩]; rfl
      · (conv => whnf); repeat first | (refine drw (by decide +kernel) ?_; conv => whnf) | (refine fun (_ : Nat) (_ : _ ≤ _) (_ : _ = none) => ?_; conv => whnf)
        rw [if_neg (by rintro ⟨h4, _⟩; omega)]; rfl

/-- a block is in memory, there -/
def Held (H : HV) (p : Nat) (b x : Nat) : Prop := ∃ m f, RdC H p 2 (.map (some m)) ∧ MO H m f ∧ f b = some (pV x)

theorem MO.uniq {H : HV} {m : Nat} {f g : Int → Option Value} (h : MO H m f) (h' : MO H m g) : f = g := by
  obtain ⟨es, c, e1, e2⟩ := h
  obtain ⟨es', c', e1', e2'⟩ := h'
  rw [e1] at e1'; cases e1'
  funext k
  rw [← e2.find, ← e2'.find]

theorem CIn.held {H : HV} {Fd Fo : Nat → Prop} {p dp m most : Nat} {f : Int → Option Value} {bl : Option Nat} {c : Nat} {l : List Int} {d : Dk} {val : Nat → List UInt8} (h : CIn H Fd Fo p dp m most f bl c l d val) {b x : Nat} (hh : Held H p b x) : f b = some (pV x) := by
  obtain ⟨m', g, h1, h2, h3⟩ := hh
  obtain ⟨arr, t, fr, q1, q2⟩ := h1
  rw [h.cell] at q1; cases q1
  have : m = m' := by simpa using q2
  subst this
  rw [MO.uniq h.mo h2]; exact h3

theorem croom_ok {H : HV} {Fd Fo : Nat → Prop} {p dp m most : Nat} {f : Int → Option Value} {bl : Option Nat} {c : Nat} {l : List Int} {d : Dk} {val : Nat → List UInt8} (w : World) (hs : ∀ i o, H i = some o → w.heap[i]? = some o) (h : CIn H Fd Fo p dp m most f bl c l d val) (hl : l.length < most) :
    Calls Tryz.prog 282 #[pV p] w (RetP (iV 0) w) := by
  obtain ⟨c0, c1, c2, c3⟩ := h.c0
  refine fn_pure (args := [pV p]) tabH Tryz.func282 rfl (by kernel_rfl)  hs ?_
  conv => whnf
  intro rb hB hN
  (conv => whnf); repeat first | (refine drw (by decide +kernel) ?_; conv => whnf) | (refine fun (_ : Nat) (_ : _ ≤ _) (_ : _ = none) => ?_; conv => whnf)
  refine ⟨_, c3, ?_⟩
  (conv => whnf); repeat first | (refine drw (by decide +kernel) ?_; conv => whnf) | (refine fun (_ : Nat) (_ : _ ≤ _) (_ : _ = none) => ?_; conv => whnf)
  refine ⟨_, c1, ?_⟩
  (conv => whnf); repeat first | (refine drw (by decide +kernel) ?_; conv => whnf) | (refine fun (_ : Nat) (_ : _ ≤ _) (_ : _ = none) => ?_; conv => whnf)
  refine vif_dec (fun h1 => ?_) (fun h1 => ?_)
  · (conv => whnf); repeat first | (refine drw (by decide +kernel) ?_; conv => whnf) | (refine fun (_ : Nat) (_ : _ ≤ _) (_ : _ = none) => ?_; conv => whnf)
    rfl
  · exact (by omega : False).elim

theorem ask1_ok {H : HV} {r : Nat} {b : Int} (v : Int) (w : World) (hs : ∀ i o, H i = some o → w.heap[i]? = some o) (hr : RdC H r 0 (iV b)) : Calls Tryz.prog 281 #[iV v, .pointer (some ⟨r, 0, none⟩)] w (RetP (bV (decide (v = b))) w) := by
  refine fn_pure (args := [iV v, .pointer (some ⟨r, 0, none⟩)]) tabH Tryz.func281 rfl (by kernel_rfl)  hs ?_
  (conv => whnf); repeat first | (refine drw (by decide +kernel) ?_; conv => whnf) | (refine fun (_ : Nat) (_ : _ ≤ _) (_ : _ = none) => ?_; conv => whnf)
  refine ⟨_, hr, ?_⟩
  (conv => whnf); repeat first | (refine drw (by decide +kernel) ?_; conv => whnf) | (refine fun (_ : Nat) (_ : _ ≤ _) (_ : _ = none) => ?_; conv => whnf)
  rfl

theorem room_lt {d : Dk} {l : List Int} {b most : Nat} (hn : l.Nodup) (hl : ∀ k ∈ l, ∃ b : Nat, k = b ∧ b < d.n) (hb : b < d.n) (hb2 : (b : Int) ∉ l) (hm : d.n ≤ most) : l.length < most := by
  have := nodup_len_le (l := (b : Int) :: l) (r := (List.range d.n).map (fun (i : Nat) => (i : Int))) (List.nodup_cons.2 ⟨hb2, hn⟩) (fun k hk => by
    rcases List.mem_cons.1 hk with rfl | hk
    · exact List.mem_map.2 ⟨b, List.mem_range.2 hb, rfl⟩
    · obtain ⟨i, rfl, hi⟩ := hl k hk
      exact List.mem_map.2 ⟨i, List.mem_range.2 hi, rfl⟩)
  simp at this
  omega
end Go.Proofs.YtlkgjffffeohdaaGreat
