/- Volumes: Format. -/
import Derived.Test.YtlkgjffffeohdaaGreatVol
set_option linter.unusedVariables false
set_option linter.unusedSimpArgs false
namespace Go.Proofs.YtlkgjffffeohdaaGreat
open Go Go.Eng Go.Proofs

/-- a new volume on a disk -/
def fmtD (d : Dk) (g : G) : Dk := ⟨d.n, fun b => if b = 1 then supB ⟨1, g⟩ else if b = 0 then zeroB else match metaB g b with | some x => x | none => d.last b, fun _ => []⟩

def fmt0 (d : Dk) : Nat → Dk
  | 0 => d
  | 1 => d.write 0 zeroB
  | _ => (d.write 0 zeroB).write 1 zeroB

theorem fmt_all (d : Dk) (g : G) (hg : g.ok) : (((eachD (fmt0 d 2).flush g (2 + g.gs.toNat * g.gr.toNat)).flush).write 1 (supB ⟨1, g⟩)).flush = fmtD d g := by
  have hk := (gok_iff g).1 hg
  unfold fmtD
  show Dk.mk d.n _ _ = _
  simp only [Dk.mk.injEq, true_and, and_true]
  funext b
  rw [Dk.last_write]
  by_cases e1 : b = 1
  · subst e1; rw [if_pos rfl, if_pos rfl]
  · rw [if_neg e1, if_neg e1, Dk.last_flush]
    show (((eachD (fmt0 d 2).flush g (2 + g.gs.toNat * g.gr.toNat)).V b).getLast?).getD ((fmt0 d 2).last b) = _
    have hlast : (fmt0 d 2).last b = if b = 0 then zeroB else d.last b := by
      show ((d.write 0 zeroB).write 1 zeroB).last b = _
      rw [Dk.last_write, if_neg e1, Dk.last_write]
    unfold eachD
    simp only
    by_cases e0 : b = 0
    · have : metaB g b = none := by unfold metaB; rw [if_neg (by omega)]
      rw [hlast, if_pos e0, if_pos e0, this]
      split <;> rfl
    · rw [hlast, if_neg e0, if_neg e0]
      cases hm : metaB g b with
      | none => split <;> rfl
      | some x =>
        have hlt : b < 2 + g.gs.toNat * g.gr.toNat := by
          unfold metaB at hm
          split at hm
          · rename_i h
            have h2 := (Nat.div_lt_iff_lt_mul (by omega : 0 < g.gr.toNat)).1 h.2.1
            omega
          · cases hm
        rw [if_pos hlt]; rfl

theorem dflush_z {H : HV} {F : Nat → Prop} {p : Nat} {d : Dk} (w : World) (hs : ∀ i o, H i = some o → w.heap[i]? = some o) (hd : DiskAt H F p d) : Calls Tryz.prog 87 #[pV p] w (Ret H F (fun v H1 => Is (v = iV 0 ∧ DiskAt H1 F p d.flush)) w) :=
  (dflush_ok w hs hd).mono (fun e w' ⟨v, H1, a, b, c, d, e, f⟩ => ⟨v, H1, a, b, c, d, e, ⟨f⟩⟩)

theorem gright_in {g : G} (hg : g.ok) (w : World) : Calls Tryz.prog 84 #[gV g] w (RetP (bV true) w) := by
  have := gright_ok g w
  rw [decide_eq_true hg] at this; exact this

theorem vformat_ok {H : HV} {F : Nat → Prop} {p : Nat} {d : Dk} {g : G} (w : World) (hs : ∀ i o, H i = some o → w.heap[i]? = some o) (hd : DiskAt H F p d) (hV : ∀ b, (d.V b).length < 999990) :
    Calls Tryz.prog 17 #[pV p, gV g] w (Ret H F (fun v H1 => Is (
      if g.ok then (if g.size ≤ d.n then v = iV 0 ∧ ∃ F', DiskAt H1 F' p (fmtD d g) ∧ Grow H F F' else v = iV 4 ∧ Sub H H1) else v = iV 1 ∧ Sub H H1)) w) := by
  refine fn_ret (args := [pV p, gV g]) tabH Tryz.func17 rfl (by kernel_rfl)  hs ?_
  conv => whnf
  intro rb hBb hNb
  (conv => whnf); repeat first | (refine drw (by decide +kernel) ?_; conv => whnf) | (refine fun (_ : Nat) (_ : _ ≤ _) (_ : _ = none) => ?_; conv => whnf)
  (refine VCall.pure_ (by kernel_rfl) (fun w hs => gright_ok g w) ?_); (conv => whnf); repeat first | (refine drw (by decide +kernel) ?_; conv => whnf) | (refine fun (_ : Nat) (_ : _ ≤ _) (_ : _ = none) => ?_; conv => whnf)
  refine vif_not (fun h1 => ?_) (fun h1 => ?_)
  · (conv => whnf); repeat first | (refine drw (by decide +kernel) ?_; conv => whnf) | (refine fun (_ : Nat) (_ : _ ≤ _) (_ : _ = none) => ?_; conv => whnf)
    exact ⟨by rw [if_neg h1]; exact ⟨rfl, fun i o h => h⟩⟩
  · have hk := (gok_iff g).1 h1
    have hsz : g.size = 2 + g.gs * g.gr := by unfold G.size; rw [if_pos h1]
    have hpos : 0 ≤ g.gs * g.gr := Int.mul_nonneg (by omega) (by omega)
    (conv => whnf); repeat first | (refine drw (by decide +kernel) ?_; conv => whnf) | (refine fun (_ : Nat) (_ : _ ≤ _) (_ : _ = none) => ?_; conv => whnf)
    (refine VDraw.held [0] [2] tabH mixH (by kernel_rfl) ?_ ?_); (focus ((repeat (first | exact trivial | ((conv => whnf); refine And.intro (by first | exact .inr ⟨0, _, _, rfl, rfl, rfl⟩ | exact .inr ⟨1, _, _, rfl, rfl, rfl⟩ | exact .inr ⟨2, _, _, rfl, rfl, rfl⟩ | exact .inr ⟨3, _, _, rfl, rfl, rfl⟩ | assumption) ?_))); done)); (conv => whnf); repeat (first | (refine fun (_ : Nat) (_ : _ ≤ _) (_ : _ = none) => ?_; conv => whnf) | (refine drw (by decide +kernel) ?_; conv => whnf) | (refine And.intro ?_ ?_; (focus (first | ((repeat (first | exact trivial | ((conv => whnf); refine And.intro (by first | exact .inr ⟨0, _, _, rfl, rfl, rfl⟩ | exact .inr ⟨1, _, _, rfl, rfl, rfl⟩ | exact .inr ⟨2, _, _, rfl, rfl, rfl⟩ | exact .inr ⟨3, _, _, rfl, rfl, rfl⟩ | assumption) ?_))); done) | ((conv => whnf); first | exact ⟨0, 0, _, _, _, rfl, (Nat.zero_add _).symm, rfl, rfl⟩ | exact ⟨1, 0, _, _, _, rfl, (Nat.zero_add _).symm, rfl, rfl⟩ | exact ⟨2, 0, _, _, _, rfl, (Nat.zero_add _).symm, rfl, rfl⟩ | exact ⟨3, 0, _, _, _, rfl, (Nat.zero_add _).symm, rfl, rfl⟩ | exact ⟨0, _, 0, _, _, rfl, rfl, rfl, rfl⟩ | exact ⟨1, _, 0, _, _, rfl, rfl, rfl, rfl⟩ | exact ⟨2, _, 0, _, _, rfl, rfl, rfl, rfl⟩ | exact ⟨3, _, 0, _, _, rfl, rfl, rfl, rfl⟩))); conv => whnf))
    (refine VCall.pure_ (by kernel_rfl) (fun w hs => dlen_ok w hs hd) ?_); (conv => whnf); repeat (first | (refine fun (_ : Nat) (_ : _ ≤ _) (_ : _ = none) => ?_; conv => whnf) | (refine drw (by decide +kernel) ?_; conv => whnf) | (refine And.intro ?_ ?_; (focus (first | ((repeat (first | exact trivial | ((conv => whnf); refine And.intro (by first | exact .inr ⟨0, _, _, rfl, rfl, rfl⟩ | exact .inr ⟨1, _, _, rfl, rfl, rfl⟩ | exact .inr ⟨2, _, _, rfl, rfl, rfl⟩ | exact .inr ⟨3, _, _, rfl, rfl, rfl⟩ | assumption) ?_))); done) | ((conv => whnf); first | exact ⟨0, 0, _, _, _, rfl, (Nat.zero_add _).symm, rfl, rfl⟩ | exact ⟨1, 0, _, _, _, rfl, (Nat.zero_add _).symm, rfl, rfl⟩ | exact ⟨2, 0, _, _, _, rfl, (Nat.zero_add _).symm, rfl, rfl⟩ | exact ⟨3, 0, _, _, _, rfl, (Nat.zero_add _).symm, rfl, rfl⟩ | exact ⟨0, _, 0, _, _, rfl, rfl, rfl, rfl⟩ | exact ⟨1, _, 0, _, _, rfl, rfl, rfl, rfl⟩ | exact ⟨2, _, 0, _, _, rfl, rfl, rfl, rfl⟩ | exact ⟨3, _, 0, _, _, rfl, rfl, rfl, rfl⟩))); conv => whnf))
    (refine VCall.pure_ (by kernel_rfl) (fun w hs => gsize_ok g w) ?_); (conv => whnf); repeat (first | (refine fun (_ : Nat) (_ : _ ≤ _) (_ : _ = none) => ?_; conv => whnf) | (refine drw (by decide +kernel) ?_; conv => whnf) | (refine And.intro ?_ ?_; (focus (first | ((repeat (first | exact trivial | ((conv => whnf); refine And.intro (by first | exact .inr ⟨0, _, _, rfl, rfl, rfl⟩ | exact .inr ⟨1, _, _, rfl, rfl, rfl⟩ | exact .inr ⟨2, _, _, rfl, rfl, rfl⟩ | exact .inr ⟨3, _, _, rfl, rfl, rfl⟩ | assumption) ?_))); done) | ((conv => whnf); first | exact ⟨0, 0, _, _, _, rfl, (Nat.zero_add _).symm, rfl, rfl⟩ | exact ⟨1, 0, _, _, _, rfl, (Nat.zero_add _).symm, rfl, rfl⟩ | exact ⟨2, 0, _, _, _, rfl, (Nat.zero_add _).symm, rfl, rfl⟩ | exact ⟨3, 0, _, _, _, rfl, (Nat.zero_add _).symm, rfl, rfl⟩ | exact ⟨0, _, 0, _, _, rfl, rfl, rfl, rfl⟩ | exact ⟨1, _, 0, _, _, rfl, rfl, rfl, rfl⟩ | exact ⟨2, _, 0, _, _, rfl, rfl, rfl, rfl⟩ | exact ⟨3, _, 0, _, _, rfl, rfl, rfl, rfl⟩))); conv => whnf))
    refine vif_dec (fun h2 => ?_) (fun h2 => ?_)
    · (conv => whnf); repeat first | (refine drw (by decide +kernel) ?_; conv => whnf) | (refine fun (_ : Nat) (_ : _ ≤ _) (_ : _ = none) => ?_; conv => whnf)
      exact ⟨by rw [if_pos h1, if_neg (by omega)]; exact ⟨rfl, fun i o h => h⟩⟩
    · (conv => whnf); repeat first | (refine drw (by decide +kernel) ?_; conv => whnf) | (refine fun (_ : Nat) (_ : _ ≤ _) (_ : _ = none) => ?_; conv => whnf)
      refine VLoop.ok (X := HV × (Nat → Prop) × Nat) (fun x => [(21, .v (iV x.2.2)), (0, .v (pV p)), (3, .p 0 rb 0), (4, .v (iV 0))]) (fun x => x.1)
        (fun x => x.2.2 ≤ 2 ∧ DiskAt x.1 x.2.1 p (fmt0 d x.2.2) ∧ Grow H F x.2.1 ∧ (∀ i o, H i = some o → ¬ F i → x.1 i = some o) ∧ ∀ i, x.2.1 i → F i ∨ w.heap.size ≤ i) (fun x => 2 - x.2.2) tabH (by kernel_rfl) rfl (fun _ => rfl)
        (H, F, 0) ⟨Nat.zero_le _, hd, Grow.refl, fun i o h _ => h, fun i h => .inl h⟩ ⟨rfl, rfl, rfl, rfl, trivial⟩ rfl ?_
      rintro ⟨Hx, Fx, b⟩ ⟨i1, i2, i3, i4, i5⟩
      dsimp only at i1 i2 i3 i4 i5
      (conv => whnf); repeat first | (refine drw (by decide +kernel) ?_; conv => whnf) | (refine fun (_ : Nat) (_ : _ ≤ _) (_ : _ = none) => ?_; conv => whnf)
      refine vif_dec (fun h3 => ?_) (fun h3 => ?_)
      · have h3 : (b : Int) < 2 := h3
        (conv => whnf); repeat first | (refine drw (by decide +kernel) ?_; conv => whnf) | (refine fun (_ : Nat) (_ : _ ≤ _) (_ : _ = none) => ?_; conv => whnf)
        refine ⟨by decide, ?_⟩
        intro rz H1 hB1 hN1 hE1
        have hz : BO H1 rz zeroB := bo_made (n := 256) hE1.new
        have hdk1 := i2.mono (H' := H1) (hE1.sub.on Fx)
        have hn0 : (fmt0 d b).n = d.n := by
          have : b = 0 ∨ b = 1 := by omega
          rcases this with rfl | rfl <;> rfl
        have hVb : ((fmt0 d b).V b).length < 1000000 := by
          have : b = 0 ∨ b = 1 := by omega
          rcases this with rfl | rfl
          · have := hV 0
            show (d.V 0).length < _
            omega
          · have := hV 1
            show (upd d.V 0 (d.V 0 ++ [zeroB]) 1).length < _
            rw [upd_ne _ _ _ (by decide)]
            omega
        (conv => whnf); repeat first | (refine drw (by decide +kernel) ?_; conv => whnf) | (refine fun (_ : Nat) (_ : _ ≤ _) (_ : _ = none) => ?_; conv => whnf)
        (refine VCall.ret (by kernel_rfl) (fun w hs => dwrite_ok (n := 256) (c := 256) b w hs hdk1 (hz.all' (n := 256) (List.length_replicate ..) 256 (Nat.le_refl _)) (by decide) (fun _ => hVb)) ?_ ?_)
        · rintro j hj; exact ⟨hdk1.dom j hj, i5 j hj⟩
        rintro v H2 hk2 hd2 ⟨hp2⟩
        rw [if_pos (by rw [hn0]; omega), if_pos rfl] at hp2
        obtain ⟨rfl, F2, hdk2, hg2⟩ := hp2
        have h22 := grow_new hg2 hdk2.dom hd2
        (conv => whnf); repeat first | (refine drw (by decide +kernel) ?_; conv => whnf) | (refine fun (_ : Nat) (_ : _ ≤ _) (_ : _ = none) => ?_; conv => whnf)
        have eb : IntKind.i64.wrap ((b : Int) + 1) = ((b + 1 : Nat) : Int) := by rw [wrap64 (by omega)]; rfl
        rw [eb]
        refine ⟨(H2, F2, b + 1), ⟨by dsimp only; omega, ?_, ⟨fun j hj => ?_, fun j hj => hg2.inn j (i3.inn j hj)⟩, fun i o h hf => hk2 i o (hE1.old _ _ (i4 i o h hf)) (fun hfx => ?_), fun j hj => ?_⟩, by dsimp only; omega, ⟨rfl, rfl, rfl, rfl, trivial⟩, ⟨[], rfl⟩, rfl⟩
        · have : b = 0 ∨ b = 1 := by omega
          rcases this with rfl | rfl
          · exact hdk2
          · exact hdk2
        · rcases hg2.out j hj with h | h
          · exact i3.out j h
          · by_cases hf : F j
            · exact .inl hf
            · right
              cases hh : H j with
              | none => rfl
              | some o => rw [hE1.old _ _ (i4 j o hh hf)] at h; cases h
        · rcases i3.out i hfx with h' | h'
          · exact hf h'
          · rw [h] at h'; cases h'
        · rcases h22 j hj with h | h
          · exact i5 j h
          · exact .inr h
      · have h3 : ¬ (b : Int) < 2 := h3
        have hb2 : b = 2 := by omega
        subst hb2
        (conv => whnf); repeat first | (refine drw (by decide +kernel) ?_; conv => whnf) | (refine fun (_ : Nat) (_ : _ ≤ _) (_ : _ = none) => ?_; conv => whnf)
        (refine VCall.ret (by kernel_rfl) (fun w hs => dflush_z w hs i2) ?_ ?_)
        · rintro j hj; exact ⟨i2.dom j hj, i5 j hj⟩
        rintro v H1 hk1 hd1 ⟨rfl, hdk1⟩
        have hn0 : (fmt0 d 2).n = d.n := rfl
        (conv => whnf); repeat first | (refine drw (by decide +kernel) ?_; conv => whnf) | (refine fun (_ : Nat) (_ : _ ≤ _) (_ : _ = none) => ?_; conv => whnf)
        (refine VCall.ret (by kernel_rfl) (fun w hs => veach_ok w hs h1 hdk1 (by show g.size ≤ (d.n : Int); omega) (fun b => rfl)) ?_ ?_)
        · rintro j hj; exact ⟨hdk1.dom j hj, i5 j hj⟩
        rintro v H2 hk2 hd2 ⟨rfl, F2, hdk2, hg2⟩
        have h22 := grow_new hg2 hdk2.dom hd2
        have i52 : ∀ j, F2 j → F j ∨ w.heap.size ≤ j := fun j hj => by
          rcases h22 j hj with h | h
          · exact i5 j h
          · exact .inr h
        (conv => whnf); repeat first | (refine drw (by decide +kernel) ?_; conv => whnf) | (refine fun (_ : Nat) (_ : _ ≤ _) (_ : _ = none) => ?_; conv => whnf)
        (refine VCall.ret (by kernel_rfl) (fun w hs => dflush_z w hs hdk2) ?_ ?_)
        · rintro j hj; exact ⟨hdk2.dom j hj, i52 j hj⟩
        rintro v H3 hk3 hd3 ⟨rfl, hdk3⟩
        (conv => whnf); repeat first | (refine drw (by decide +kernel) ?_; conv => whnf) | (refine fun (_ : Nat) (_ : _ ≤ _) (_ : _ = none) => ?_; conv => whnf)
        (refine VCall.ret (by kernel_rfl) (fun w hs => sput_ok ⟨1, g⟩ w hs) ?_ ?_)
        · rintro j ⟨⟩
        rintro v H4 hk4 hd4 ⟨hp4⟩
        rw [if_pos ⟨(by show (1 : Int) ≤ 1; decide), (by show (1 : Int) ≤ 4611686018427387904; decide), h1⟩] at hp4
        obtain ⟨r4, rfl, hN4, hb4⟩ := hp4
        have hdk4 := hdk3.mono (H' := H4) (fun i o _ ho => hk4 i o ho (fun h => h))
        (conv => whnf); repeat first | (refine drw (by decide +kernel) ?_; conv => whnf) | (refine fun (_ : Nat) (_ : _ ≤ _) (_ : _ = none) => ?_; conv => whnf)
        (refine VCall.ret (by kernel_rfl) (fun w hs => dwrite_ok (n := 256) (c := 256) 1 w hs hdk4 (hb4.all' (n := 256) (supB_len _) 256 (Nat.le_refl _)) (by decide) (fun _ => by show ([] : List (List UInt8)).length < _; decide)) ?_ ?_)
        · rintro j hj; exact ⟨hdk4.dom j hj, i52 j hj⟩
        rintro v H5 hk5 hd5 ⟨hp5⟩
        rw [if_pos (by show (0 : Int) ≤ 1 ∧ (1 : Int) < (d.n : Int); omega), if_pos rfl] at hp5
        obtain ⟨rfl, F5, hdk5, hg5⟩ := hp5
        have h55 := grow_new hg5 hdk5.dom hd5
        (conv => whnf); repeat first | (refine drw (by decide +kernel) ?_; conv => whnf) | (refine fun (_ : Nat) (_ : _ ≤ _) (_ : _ = none) => ?_; conv => whnf)
        (refine VCall.ret (by kernel_rfl) (fun w hs => dflush_z w hs hdk5) ?_ ?_)
        · rintro j hj
          refine ⟨hdk5.dom j hj, ?_⟩
          rcases h55 j hj with h | h
          · exact i52 j h
          · exact .inr h
        rintro v H6 hk6 hd6 ⟨rfl, hdk6⟩
        have e6 := fmt_all d g h1
        have hdk6' : DiskAt H6 F5 p (fmtD d g) := by rw [← e6]; exact hdk6
        (conv => whnf); repeat first | (refine drw (by decide +kernel) ?_; conv => whnf) | (refine fun (_ : Nat) (_ : _ ≤ _) (_ : _ = none) => ?_; conv => whnf)
        refine ⟨?_⟩
        rw [if_pos h1, if_pos (by omega)]
        refine ⟨rfl, F5, hdk6', fun j hj => ?_, fun j hj => hg5.inn j (hg2.inn j (i3.inn j hj))⟩
        by_cases hf : F j
        · exact .inl hf
        right
        cases hh : H j with
        | none => rfl
        | some o =>
          have hfx : ¬ Fx j := fun h => by
            rcases i3.out j h with h' | h'
            · exact hf h'
            · rw [hh] at h'; cases h'
          have a1 := hk1 j o (i4 j o hh hf) hfx
          have hf2 : ¬ F2 j := fun h => by
            rcases hg2.out j h with h' | h'
            · exact hfx h'
            · rw [a1] at h'; cases h'
          have a3 := hk4 j o (hk3 j o (hk2 j o a1 hfx) hf2) (fun h => h)
          rcases hg5.out j hj with h' | h'
          · exact (hf2 h').elim
          · rw [a3] at h'; cases h'
end Go.Proofs.YtlkgjffffeohdaaGreat
