/- Disks: which blocks are open, flush, all bytes. -/
import Derived.Test.YtlkgjffffeohdaaGreatSort
set_option linter.unusedVariables false
set_option linter.unusedSimpArgs false
namespace Go.Proofs.YtlkgjffffeohdaaGreat
open Go Go.Eng Go.Proofs

theorem sortZ_eq {l : List Int} {r : List Int} (hn : l.Nodup) (hr : r.Pairwise (· < ·)) (hm : ∀ k, k ∈ l ↔ k ∈ r) : sortZ l = r := by
  have hrn : r.Nodup := hr.imp (fun h => Int.ne_of_lt h)
  have hp : (sortZ l).Perm r := (List.mergeSort_perm l _).trans ((List.perm_ext_iff_of_nodup hn hrn).2 hm)
  refine hp.eq_of_pairwise (le := fun x y => x ≤ y) (fun a b _ _ h1 h2 => Int.le_antisymm h1 h2) ?_ (hr.imp (fun h => Int.le_of_lt h))
  have := List.pairwise_mergeSort (le := fun (x y : Int) => decide (x ≤ y)) (fun a b c h1 h2 => by simp at *; omega) (fun a b => by simp; omega) l
  exact this.imp (fun h => by simpa using h)

theorem Dk.open_mem {d : Dk} (h : d.Ok) (k : Int) : k ∈ d.open ↔ ∃ b : Nat, k = b ∧ d.V b ≠ [] := by
  unfold Dk.open
  simp only [List.mem_map, List.mem_filter, List.mem_range]
  constructor
  · rintro ⟨b, ⟨h1, h2⟩, rfl⟩; exact ⟨b, rfl, by simpa using h2⟩
  · rintro ⟨b, rfl, h2⟩
    refine ⟨b, ⟨Classical.byContradiction fun h1 => h2 (h.o b (by omega)), by simpa using h2⟩, rfl⟩

theorem Dk.open_sorted (d : Dk) : d.open.Pairwise (· < ·) := by
  unfold Dk.open
  rw [List.pairwise_map]
  exact (List.Pairwise.filter _ List.pairwise_lt_range).imp (fun h => by omega)

theorem Dk.open_len (d : Dk) : d.open.length ≤ d.n := by
  unfold Dk.open
  rw [List.length_map]
  exact Nat.le_trans (List.length_filter_le ..) (by simp)

/-- what was collected of a map's keys, and what is to come -/
structure Coll (f : Int → Option Value) (got rest : List Int) : Prop where
  nodup : (got ++ rest).Nodup
  mem : ∀ k, k ∈ got ++ rest ↔ f k ≠ none

theorem Coll.step {f : Int → Option Value} {got rest : List Int} (h : Coll f got rest) {k : Int} (hk : k ∈ rest) : Coll f (got ++ [k]) (rest.erase k) := by
  have hp : ((got ++ [k]) ++ rest.erase k).Perm (got ++ rest) := by
    rw [List.append_assoc]
    exact List.Perm.append_left _ (List.perm_cons_erase hk).symm
  exact ⟨hp.nodup_iff.2 h.nodup, fun j => hp.mem_iff.trans (h.mem j)⟩

/-- the state of a loop that collects a map's keys -/
structure KX where
  H : HV
  b : Option Nat
  c : Nat
  got : List Int
  rest : List Int

theorem dopen_ok {H : HV} {F : Nat → Prop} {p : Nat} {d : Dk} (w : World) (hs : ∀ i o, H i = some o → w.heap[i]? = some o) (hd : DiskAt H F p d) : Calls Tryz.prog 96 #[pV p] w (Ret H (fun _ => False) (fun v H1 => Is (
    ∃ b c, v = slV b d.open.length c ∧ OS H1 3 1 b d.open.length c (intsV d.open) ∧ ∀ r, b = some r → H r = none)) w) := by
  refine fn_ret (args := [pV p]) tabH Tryz.func96 rfl (by kernel_rfl)  hs ?_
  obtain ⟨q, m, f, hp, hq, hm, hpq, ⟨ty, hc⟩, hbo, hmo, hf1, hf2⟩ := hd.out
  have f1 : RdC H p 1 (.map (some m)) := ⟨_, ty, _, hc, rfl⟩
  have hfb : ∀ k, f k ≠ none ↔ ∃ b : Nat, k = b ∧ d.V b ≠ [] := by
    intro k
    constructor
    · intro hk
      cases hfk : f k with
      | none => exact (hk hfk).elim
      | some v => obtain ⟨b, e1, e2, e3⟩ := hf2 k v hfk; exact ⟨b, e1, e3.ne⟩
    · rintro ⟨b, rfl, hb⟩ hn; exact hb (hf1 b hn)
  have hfin : ∀ got, Coll f got [] → sortZ got = d.open ∧ got.length = d.open.length := by
    intro got hcl
    have hn := hcl.nodup
    have hmm := hcl.mem
    rw [List.append_nil] at hn hmm
    have : sortZ got = d.open := sortZ_eq hn d.open_sorted (fun k => by rw [hmm, hfb, Dk.open_mem hd.ok])
    exact ⟨this, by rw [← this]; simp [sortZ]⟩
  have hsmall : ∀ got rest, Coll f got rest → got.length + rest.length ≤ 4096 := by
    intro got rest hcl
    have hsub : ∀ k ∈ got ++ rest, k ∈ d.open := fun k hk => (Dk.open_mem hd.ok k).2 ((hfb k).1 ((hcl.mem k).1 hk))
    have h1 := nodup_len_le hcl.nodup hsub
    have h2 := d.open_len
    have h3 := hd.ok.n
    rw [List.length_append] at h1
    omega
  (conv => whnf); repeat first | (refine drw (by decide +kernel) ?_; conv => whnf) | (refine fun (_ : Nat) (_ : _ ≤ _) (_ : _ = none) => ?_; conv => whnf)
  refine ⟨_, f1, ?_⟩
  (conv => whnf); repeat first | (refine drw (by decide +kernel) ?_; conv => whnf) | (refine fun (_ : Nat) (_ : _ ≤ _) (_ : _ = none) => ?_; conv => whnf)
  refine hmo.iter ?_
  intro rit H1 rest hB1 hN1 hS1 hrest hmi
  (conv => whnf); repeat first | (refine drw (by decide +kernel) ?_; conv => whnf) | (refine fun (_ : Nat) (_ : _ ≤ _) (_ : _ = none) => ?_; conv => whnf)
  refine VLoop.ok (X := KX) (fun x => [(3, .v (slV x.b x.got.length x.c)), (11, .v (pV rit)), (2, .v (.slice none 0 0))]) (fun x => x.H)
    (fun x => Sub H x.H ∧ MI x.H rit m f x.rest ∧ OS x.H 3 1 x.b x.got.length x.c (intsV x.got) ∧ Coll f x.got x.rest ∧ (∀ r, x.b = some r → H r = none ∧ w.heap.size ≤ r ∧ r ≠ rit)) (fun x => x.rest.length) tabH (by kernel_rfl) rfl (fun _ => rfl)
    ⟨H1, none, 0, [], rest⟩ ⟨hS1, hmi, OS.nil _ _ _, ⟨hmi.nodup, hrest⟩, fun r hr => by cases hr⟩ ⟨rfl, rfl, rfl, trivial⟩ rfl ?_
  rintro ⟨Hx, b, c, got, rest⟩ ⟨i1, i2, i3, i4, i5⟩
  dsimp only at i1 i2 i3 i4 i5
  (conv => whnf); repeat first | (refine drw (by decide +kernel) ?_; conv => whnf) | (refine fun (_ : Nat) (_ : _ ≤ _) (_ : _ = none) => ?_; conv => whnf)
  refine MI.next (H := Hx) (M := fun _ => False) (B := w.heap.size) i2 (.inr hB1) ?_ ?_
  · intro h0
    subst h0
    obtain ⟨e1, e2⟩ := hfin got i4
    have hle := hsmall _ _ i4
    (conv => whnf); repeat first | (refine drw (by decide +kernel) ?_; conv => whnf) | (refine fun (_ : Nat) (_ : _ ≤ _) (_ : _ = none) => ?_; conv => whnf)
    (refine VCall.ret (by kernel_rfl) (fun w hs => sort_ok (n := got.length) w hs i3 (by omega)) ?_ ?_)
    · rintro i hi
      obtain ⟨g1, g2, g3⟩ := i5 i hi
      refine ⟨?_, .inr g2⟩
      have hb : b = some i := hi
      subst hb
      obtain ⟨_, g, _⟩ := i3.out
      exact ⟨_, g⟩
    rintro v H3 hk3 hd3 ⟨rfl, ho3⟩
    (conv => whnf); repeat first | (refine drw (by decide +kernel) ?_; conv => whnf) | (refine fun (_ : Nat) (_ : _ ≤ _) (_ : _ = none) => ?_; conv => whnf)
    refine ⟨b, c, by rw [e2], by rw [← e2, ← e1]; exact ho3, fun r hr => (i5 r hr).1⟩
  · intro k v bn hk hfk H2 hk2 hmi2 hme
    (conv => whnf); repeat first | (refine drw (by decide +kernel) ?_; conv => whnf) | (refine fun (_ : Nat) (_ : _ ≤ _) (_ : _ = none) => ?_; conv => whnf)
    refine hme.entry (fun bn2 => ?_)
    (conv => whnf); repeat first | (refine drw (by decide +kernel) ?_; conv => whnf) | (refine fun (_ : Nat) (_ : _ ≤ _) (_ : _ = none) => ?_; conv => whnf)
    refine ⟨by decide, ?_⟩
    intro r3 H3 hB3 hN3 hE3
    (conv => whnf); repeat first | (refine drw (by decide +kernel) ?_; conv => whnf) | (refine fun (_ : Nat) (_ : _ ≤ _) (_ : _ = none) => ?_; conv => whnf)
    have hle := hsmall _ _ i4
    have i3' : OS H3 3 1 b got.length c (intsV got) := i3.mono (fun r o hr ho => hE3.old _ _ (hk2 _ _ (i5 r hr).2.2 ho))
    refine OS.append i3' (by_ := 8) [kV k] (RdS_one hE3.new rfl) rfl (fun v hv => by rw [List.mem_singleton.1 hv]; rfl) (by decide) (by have := List.length_pos_of_mem hk; omega) rfl (fun r hr => .inr (i5 r hr).2.1) ?_
    intro b4 c4 H4 ho4 hk4 hn4 _
    (conv => whnf); repeat first | (refine drw (by decide +kernel) ?_; conv => whnf) | (refine fun (_ : Nat) (_ : _ ≤ _) (_ : _ = none) => ?_; conv => whnf)
    have hl : (got ++ [k]).length = got.length + 1 := by simp
    have hrit : ∀ r, b = some r → rit ≠ r := fun r hr e => (i5 r hr).2.2 e.symm
    have h34 : ∀ i o, (∀ r, b = some r → i ≠ r) → H3 i = some o → H4 i = some o := fun i o hi ho => hk4 i o (.inl (fun e => hi i e rfl)) ho
    refine ⟨⟨H4, b4, c4, got ++ [k], rest.erase k⟩, ⟨fun i o ho => ?_, ?_, ?_, i4.step hk, fun r hr => ?_⟩, ?_, ⟨?_, rfl, rfl, trivial⟩, ⟨[], rfl⟩, rfl⟩
    · refine h34 i o (fun r hr e => ?_) (hE3.old _ _ (hk2 _ _ (fun e => ?_) (i1 _ _ ho)))
      · have := (i5 r hr).1; rw [← e, ho] at this; cases this
      · rw [e] at ho; rw [hN1] at ho; cases ho
    · exact hmi2.mono (fun o ho => h34 _ _ hrit (hE3.old _ _ ho)) (fun o ho => h34 _ _ (fun r hr e => by
        have := (i5 r hr).1
        obtain ⟨es, ec, g, _⟩ := hmo
        rw [← e, g] at this; cases this) (hE3.old _ _ ho))
    · show OS H4 3 1 b4 (got ++ [k]).length c4 (intsV (got ++ [k]))
      rw [hl, show intsV (got ++ [k]) = intsV got ++ [kV k] from by simp [intsV]]
      exact ho4
    · rcases hn4 r hr with ⟨h1, _⟩ | ⟨h1, h2⟩
      · exact i5 r h1
      · have hN := hE3.none h1
        refine ⟨?_, h2, fun e => ?_⟩
        · cases hh : H r with
          | none => rfl
          | some o =>
            have := hk2 r o (fun e => by rw [e, hN1] at hh; cases hh) (i1 _ _ hh)
            rw [hN] at this; cases this
        · obtain ⟨es, ec, seen, _, _, g, _⟩ := hmi2.out
          rw [e, g] at hN; cases hN
    · show (rest.erase k).length < rest.length
      rw [List.length_erase_of_mem hk]; have := List.length_pos_of_mem hk; omega
    · show some (SV.v (slV b4 (got.length + 1) c4)) = some (SV.v (slV b4 (got ++ [k]).length c4))
      rw [hl]
end Go.Proofs.YtlkgjffffeohdaaGreat
