/- What a group's header says: its bytes. -/
import Derived.Test.YtlkgjffffeohdaaGreatGroup
import Derived.Test.YtlkgjffffeohdaaGreatSum
set_option linter.unusedVariables false
set_option linter.unusedSimpArgs false
namespace Go.Proofs.YtlkgjffffeohdaaGreat
open Go Go.Eng Go.Proofs

theorem rightB_ok {g : G} {h : Hd} (hr : rightB g h = true) : g.ok ∧ 0 ≤ h.no ∧ h.no < g.gs := by
  unfold rightB at hr
  rw [Bool.and_eq_true] at hr
  exact of_decide_eq_true hr.1

def freeB (g : G) (h : Hd) : Int × Int := if rightB g h then (g.gr - cntB h.blk (mostB h.blk g.gr), g.inn - cntB h.slt (mostB h.slt g.inn)) else (0, 0)

theorem freeB_small (g : G) (h : Hd) : 0 ≤ (freeB g h).1 ∧ (freeB g h).1 ≤ 128 ∧ 0 ≤ (freeB g h).2 ∧ (freeB g h).2 ≤ 64 := by
  unfold freeB
  split
  · rename_i hr
    have hk := (gok_iff g).1 (rightB_ok hr).1
    have h1 := cntB_le h.blk (mostB h.blk g.gr)
    have h2 := cntB_le h.slt (mostB h.slt g.inn)
    unfold mostB at *
    dsimp only
    omega
  · dsimp only; omega

theorem gfree_ok (g : G) (h : Hd) (hm : h.m.length = 24) (w : World) : Calls Tryz.prog 122 #[gV g, hV h] w (RetP (v2 (freeB g h)) w) := by
  refine fn_pure (H0 := (fun _ => none)) (args := [gV g, hV h]) tabH Tryz.func122 rfl (by kernel_rfl)  (fun _ _ h => by cases h) ?_
  have hfs := freeB_small g h
  (conv => whnf); repeat first | (refine drw (by decide +kernel) ?_; conv => whnf) | (refine fun (_ : Nat) (_ : _ ≤ _) (_ : _ = none) => ?_; conv => whnf)
  intro r1 H1 hB1 hN1 hE1
  have ho1 : HO H1 r1 h := ⟨_, hE1.new⟩
  (conv => whnf); repeat first | (refine drw (by decide +kernel) ?_; conv => whnf) | (refine fun (_ : Nat) (_ : _ ≤ _) (_ : _ = none) => ?_; conv => whnf)
  refine ⟨_, ho1.agg hm, ?_⟩
  (conv => whnf); repeat first | (refine drw (by decide +kernel) ?_; conv => whnf) | (refine fun (_ : Nat) (_ : _ ≤ _) (_ : _ = none) => ?_; conv => whnf)
  (refine VCall.pure_ (by kernel_rfl) (fun w hs => right_ok _ h hm w) ?_); (conv => whnf); repeat first | (refine drw (by decide +kernel) ?_; conv => whnf) | (refine fun (_ : Nat) (_ : _ ≤ _) (_ : _ = none) => ?_; conv => whnf)
  refine vif_intro (fun h1 => ?_) (fun h1 => ?_)
  · (conv => whnf); repeat first | (refine drw (by decide +kernel) ?_; conv => whnf) | (refine fun (_ : Nat) (_ : _ ≤ _) (_ : _ = none) => ?_; conv => whnf)
    unfold freeB
    rw [if_neg (by simpa using h1)]; rfl
  · have hr : rightB g h = true := by simpa using h1
    have hk := (gok_iff g).1 (rightB_ok hr).1
    (conv => whnf); repeat first | (refine drw (by decide +kernel) ?_; conv => whnf) | (refine fun (_ : Nat) (_ : _ ≤ _) (_ : _ = none) => ?_; conv => whnf)
    (refine VDraw.held [0] [1, 9, 13] tabH mixH (by kernel_rfl) ?_ ?_); (focus ((repeat (first | exact trivial | ((conv => whnf); refine And.intro (by first | exact .inr ⟨0, _, _, rfl, rfl, rfl⟩ | exact .inr ⟨1, _, _, rfl, rfl, rfl⟩ | exact .inr ⟨2, _, _, rfl, rfl, rfl⟩ | exact .inr ⟨3, _, _, rfl, rfl, rfl⟩ | assumption) ?_))); done)); (conv => whnf); repeat (first | (refine fun (_ : Nat) (_ : _ ≤ _) (_ : _ = none) => ?_; conv => whnf) | (refine drw (by decide +kernel) ?_; conv => whnf) | (refine And.intro ?_ ?_; (focus (first | ((repeat (first | exact trivial | ((conv => whnf); refine And.intro (by first | exact .inr ⟨0, _, _, rfl, rfl, rfl⟩ | exact .inr ⟨1, _, _, rfl, rfl, rfl⟩ | exact .inr ⟨2, _, _, rfl, rfl, rfl⟩ | exact .inr ⟨3, _, _, rfl, rfl, rfl⟩ | assumption) ?_))); done) | ((conv => whnf); first | exact ⟨0, 0, _, _, _, rfl, (Nat.zero_add _).symm, rfl, rfl⟩ | exact ⟨1, 0, _, _, _, rfl, (Nat.zero_add _).symm, rfl, rfl⟩ | exact ⟨2, 0, _, _, _, rfl, (Nat.zero_add _).symm, rfl, rfl⟩ | exact ⟨3, 0, _, _, _, rfl, (Nat.zero_add _).symm, rfl, rfl⟩ | exact ⟨0, _, 0, _, _, rfl, rfl, rfl, rfl⟩ | exact ⟨1, _, 0, _, _, rfl, rfl, rfl, rfl⟩ | exact ⟨2, _, 0, _, _, rfl, rfl, rfl, rfl⟩ | exact ⟨3, _, 0, _, _, rfl, rfl, rfl, rfl⟩))); conv => whnf))
    (refine VCall.pure_ (by kernel_rfl) (fun w hs => bcount_ok _ w hs (ho1.blkBS hm) (by omega)) ?_); (conv => whnf); repeat (first | (refine fun (_ : Nat) (_ : _ ≤ _) (_ : _ = none) => ?_; conv => whnf) | (refine drw (by decide +kernel) ?_; conv => whnf) | (refine And.intro ?_ ?_; (focus (first | ((repeat (first | exact trivial | ((conv => whnf); refine And.intro (by first | exact .inr ⟨0, _, _, rfl, rfl, rfl⟩ | exact .inr ⟨1, _, _, rfl, rfl, rfl⟩ | exact .inr ⟨2, _, _, rfl, rfl, rfl⟩ | exact .inr ⟨3, _, _, rfl, rfl, rfl⟩ | assumption) ?_))); done) | ((conv => whnf); first | exact ⟨0, 0, _, _, _, rfl, (Nat.zero_add _).symm, rfl, rfl⟩ | exact ⟨1, 0, _, _, _, rfl, (Nat.zero_add _).symm, rfl, rfl⟩ | exact ⟨2, 0, _, _, _, rfl, (Nat.zero_add _).symm, rfl, rfl⟩ | exact ⟨3, 0, _, _, _, rfl, (Nat.zero_add _).symm, rfl, rfl⟩ | exact ⟨0, _, 0, _, _, rfl, rfl, rfl, rfl⟩ | exact ⟨1, _, 0, _, _, rfl, rfl, rfl, rfl⟩ | exact ⟨2, _, 0, _, _, rfl, rfl, rfl, rfl⟩ | exact ⟨3, _, 0, _, _, rfl, rfl, rfl, rfl⟩))); conv => whnf))
    (refine VCall.pure_ (by kernel_rfl) (fun w hs => bcount_ok _ w hs (ho1.sltBS hm) (by omega)) ?_); (conv => whnf); repeat (first | (refine fun (_ : Nat) (_ : _ ≤ _) (_ : _ = none) => ?_; conv => whnf) | (refine drw (by decide +kernel) ?_; conv => whnf) | (refine And.intro ?_ ?_; (focus (first | ((repeat (first | exact trivial | ((conv => whnf); refine And.intro (by first | exact .inr ⟨0, _, _, rfl, rfl, rfl⟩ | exact .inr ⟨1, _, _, rfl, rfl, rfl⟩ | exact .inr ⟨2, _, _, rfl, rfl, rfl⟩ | exact .inr ⟨3, _, _, rfl, rfl, rfl⟩ | assumption) ?_))); done) | ((conv => whnf); first | exact ⟨0, 0, _, _, _, rfl, (Nat.zero_add _).symm, rfl, rfl⟩ | exact ⟨1, 0, _, _, _, rfl, (Nat.zero_add _).symm, rfl, rfl⟩ | exact ⟨2, 0, _, _, _, rfl, (Nat.zero_add _).symm, rfl, rfl⟩ | exact ⟨3, 0, _, _, _, rfl, (Nat.zero_add _).symm, rfl, rfl⟩ | exact ⟨0, _, 0, _, _, rfl, rfl, rfl, rfl⟩ | exact ⟨1, _, 0, _, _, rfl, rfl, rfl, rfl⟩ | exact ⟨2, _, 0, _, _, rfl, rfl, rfl, rfl⟩ | exact ⟨3, _, 0, _, _, rfl, rfl, rfl, rfl⟩))); conv => whnf))
    unfold freeB at *
    rw [if_pos hr] at *
    dsimp only at hfs
    rw [wrap64 (by omega), wrap64 (by omega)]; rfl

/-- the header's bytes, as far as its three numbers -/
def putB3 (g : G) (h : Hd) : Nat → List UInt8
  | 0 => splice (List.replicate 256 0) 0 [76, 71, 82, 80]
  | k + 1 => splice (putB3 g h k) (4 + 2 * k) (leB 2 (([h.no, (freeB g h).1, (freeB g h).2].getD k 0).toNat))
theorem putB3_len (g : G) (h : Hd) : ∀ k, k ≤ 3 → (putB3 g h k).length = 256
  | 0, _ => by show (splice _ _ _).length = 256; rw [splice_length (by rw [List.length_replicate]; decide), List.length_replicate]
  | k + 1, hk => by
    have ih := putB3_len g h k (by omega)
    have h2 := leB_length 2 (([h.no, (freeB g h).1, (freeB g h).2].getD k 0).toNat)
    show (splice _ _ _).length = _
    rw [splice_length (by omega)]; exact ih
/-- a header's bytes -/
def hdB (g : G) (h : Hd) : List UInt8 := splice (splice (putB3 g h 3) 16 h.blk) 32 h.slt
theorem hdB_len (g : G) (h : Hd) (hm : h.m.length = 24) : (hdB g h).length = 256 := by
  have h1 := putB3_len g h 3 (Nat.le_refl _)
  have hb : h.blk.length = 16 := by simp [Hd.blk, hm]
  have hs : h.slt.length = 8 := by simp [Hd.slt, hm]
  unfold hdB
  rw [splice_length (by rw [splice_length (by omega)]; omega), splice_length (by omega)]; exact h1

theorem gput_ok {H : HV} (g : G) (h : Hd) (hm : h.m.length = 24) (w : World) (hs : ∀ i o, H i = some o → w.heap[i]? = some o) : Calls Tryz.prog 134 #[gV g, hV h] w (Ret H (fun _ => False) (fun v H1 => Is (
    if rightB g h then ∃ r, v = .tuple #[fresh r 256, iV 0] ∧ H r = none ∧ BO H1 r (hdB g h) else v = .tuple #[nilS, iV 1])) w) := by
  refine fn_ret (args := [gV g, hV h]) tabH Tryz.func134 rfl (by kernel_rfl)  hs ?_
  have hfs := freeB_small g h
  (conv => whnf); repeat first | (refine drw (by decide +kernel) ?_; conv => whnf) | (refine fun (_ : Nat) (_ : _ ≤ _) (_ : _ = none) => ?_; conv => whnf)
  intro r1 H1 hB1 hN1 hE1
  have ho1 : HO H1 r1 h := ⟨_, hE1.new⟩
  (conv => whnf); repeat first | (refine drw (by decide +kernel) ?_; conv => whnf) | (refine fun (_ : Nat) (_ : _ ≤ _) (_ : _ = none) => ?_; conv => whnf)
  refine ⟨_, ho1.agg hm, ?_⟩
  (conv => whnf); repeat first | (refine drw (by decide +kernel) ?_; conv => whnf) | (refine fun (_ : Nat) (_ : _ ≤ _) (_ : _ = none) => ?_; conv => whnf)
  (refine VCall.pure_ (by kernel_rfl) (fun w hs => right_ok _ h hm w) ?_); (conv => whnf); repeat first | (refine drw (by decide +kernel) ?_; conv => whnf) | (refine fun (_ : Nat) (_ : _ ≤ _) (_ : _ = none) => ?_; conv => whnf)
  refine vif_intro (fun h1 => ?_) (fun h1 => ?_)
  · (conv => whnf); repeat first | (refine drw (by decide +kernel) ?_; conv => whnf) | (refine fun (_ : Nat) (_ : _ ≤ _) (_ : _ = none) => ?_; conv => whnf)
    exact ⟨by rw [if_neg (by simpa using h1)]; rfl⟩
  · have hr : rightB g h = true := by simpa using h1
    have hno := (rightB_ok hr).2
    have hk := (gok_iff g).1 (rightB_ok hr).1
    (conv => whnf); repeat first | (refine drw (by decide +kernel) ?_; conv => whnf) | (refine fun (_ : Nat) (_ : _ ≤ _) (_ : _ = none) => ?_; conv => whnf)
    refine ⟨by decide, ?_⟩
    intro r2 H2 hB2 hN2 hE2
    have n12 : r1 ≠ r2 := fun e => by subst e; rw [hE1.new] at hN2; cases hN2
    (conv => whnf); repeat first | (refine drw (by decide +kernel) ?_; conv => whnf) | (refine fun (_ : Nat) (_ : _ ≤ _) (_ : _ = none) => ?_; conv => whnf)
    have hb2 : BO H2 r2 (List.replicate 256 0) := bo_made hE2.new
    refine ⟨bytesV [76, 71, 82, 80], (show _ = _ by kernel_rfl), BO.store hb2 [76, 71, 82, 80] 0 (by rw [List.length_replicate]; decide) (.inr hB2) ?_⟩
    intro H3 hk3 hb3
    have ho3 : HO H3 r1 h := ho1.mono (fun o ho => hk3 r1 o n12 (hE2.old _ _ ho))
    (conv => whnf); repeat first | (refine drw (by decide +kernel) ?_; conv => whnf) | (refine fun (_ : Nat) (_ : _ ≤ _) (_ : _ = none) => ?_; conv => whnf)
    refine ⟨_, ho3.agg hm, ?_⟩
    (conv => whnf); repeat first | (refine drw (by decide +kernel) ?_; conv => whnf) | (refine fun (_ : Nat) (_ : _ ≤ _) (_ : _ = none) => ?_; conv => whnf)
    (refine VCall.pure_ (by kernel_rfl) (fun w hs => gfree_ok g h hm w) ?_); (conv => whnf); repeat first | (refine drw (by decide +kernel) ?_; conv => whnf) | (refine fun (_ : Nat) (_ : _ ≤ _) (_ : _ = none) => ?_; conv => whnf)
    refine ⟨_, ho3.no, ?_⟩
    (conv => whnf); repeat first | (refine drw (by decide +kernel) ?_; conv => whnf) | (refine fun (_ : Nat) (_ : _ ≤ _) (_ : _ = none) => ?_; conv => whnf)
    refine VLoop.ok (X := Nat × HV) (fun x => [(29, .v (.int .i64 x.1)), (28, .v (.agg ⟨[iV h.no, iV (freeB g h).1, iV (freeB g h).2]⟩)), (3, .v (.pointer (some ⟨r1, 0, none⟩))), (6, .v (fresh r2 256))]) (fun x => x.2)
      (fun x => x.1 ≤ 3 ∧ HO x.2 r1 h ∧ BO x.2 r2 (putB3 g h x.1)) (fun x => 3 - x.1) tabH (by kernel_rfl) rfl (fun _ => rfl) (0, H3) ⟨Nat.zero_le _, ho3, hb3⟩ ⟨rfl, rfl, rfl, rfl, trivial⟩ rfl ?_
    rintro x ⟨hi1, hi2, hi3⟩
    have hln := putB3_len g h x.1 hi1
    (conv => whnf); repeat first | (refine drw (by decide +kernel) ?_; conv => whnf) | (refine fun (_ : Nat) (_ : _ ≤ _) (_ : _ = none) => ?_; conv => whnf)
    refine vif_dec (fun h1 => ?_) (fun h1 => ?_)
    · have nx : IntKind.wrap .i64 ((x.1 : Int) + 1) = ((x.1 + 1 : Nat) : Int) := by rw [wrap64 (by omega)]; rfl
      have hi0 : x.1 < 3 := by omega
      obtain ⟨v, hv, hv2⟩ : ∃ v : Nat, [h.no, (freeB g h).1, (freeB g h).2].getD x.1 0 = v ∧ v < 4096 := by
        have : 0 ≤ [h.no, (freeB g h).1, (freeB g h).2].getD x.1 0 ∧ [h.no, (freeB g h).1, (freeB g h).2].getD x.1 0 < 4096 := by
          generalize x.1 = i at hi0
          match i, hi0 with
          | 0, _ => show 0 ≤ h.no ∧ h.no < 4096; omega
          | 1, _ => show 0 ≤ (freeB g h).1 ∧ (freeB g h).1 < 4096; omega
          | 2, _ => show 0 ≤ (freeB g h).2 ∧ (freeB g h).2 < 4096; omega
        exact ⟨([h.no, (freeB g h).1, (freeB g h).2].getD x.1 0).toNat, by omega, by omega⟩
      (conv => whnf); repeat first | (refine drw (by decide +kernel) ?_; conv => whnf) | (refine fun (_ : Nat) (_ : _ ≤ _) (_ : _ = none) => ?_; conv => whnf)
      refine ⟨⟨by omega, by omega⟩, ?_⟩
      (conv => whnf); repeat first | (refine drw (by decide +kernel) ?_; conv => whnf) | (refine fun (_ : Nat) (_ : _ ≤ _) (_ : _ = none) => ?_; conv => whnf)
      refine ⟨.int .i64 v, ?_, ?_⟩
      · rw [← hv]; exact idx_vals (fun n => iV n) [h.no, (freeB g h).1, (freeB g h).2] x.1 hi0
      (conv => whnf); repeat first | (refine drw (by decide +kernel) ?_; conv => whnf) | (refine fun (_ : Nat) (_ : _ ≤ _) (_ : _ = none) => ?_; conv => whnf)
      have e1 : IntKind.i64.wrap (4 + IntKind.i64.wrap ((x.1 : Int) * 2)) = ((4 + 2 * x.1 : Nat) : Int) := by rw [wrap64 (n := (x.1 : Int) * 2) (by omega), wrap64 (by omega)]; omega
      have e2 : IntKind.i64.wrap (4 + IntKind.i64.wrap (IntKind.i64.wrap ((x.1 : Int) + 1) * 2)) = ((6 + 2 * x.1 : Nat) : Int) := by rw [wrap64 (n := (x.1 : Int) + 1) (by omega), wrap64 (n := ((x.1 : Int) + 1) * 2) (by omega), wrap64 (by omega)]; omega
      rw [e1, e2]
      refine ⟨⟨by omega, by omega, by omega⟩, ?_⟩
      (conv => whnf); repeat first | (refine drw (by decide +kernel) ?_; conv => whnf) | (refine fun (_ : Nat) (_ : _ ≤ _) (_ : _ = none) => ?_; conv => whnf)
      (refine VCall.ret (by kernel_rfl) (fun w hs => nput_ok' v w hs hi3 (off2 := 4 + 2 * x.1) (n2 := 2) (by rw [if_neg (by show ¬ 256 = 4 + 2 * x.1; omega)]; show 0 + (4 + 2 * x.1) * 1 = _; omega) (by show 6 + 2 * x.1 - (4 + 2 * x.1) = 2; omega) (wrap_u64 (by omega)) (by omega) (by decide) (by omega)) ?_ ?_)
      · rintro i rfl
        exact ⟨(let ⟨_, _, h, _⟩ := hi3; ⟨_, h⟩), .inr hB2⟩
      rintro v1 H4 hk4 hd4 ⟨rfl, hb4⟩
      (conv => whnf); repeat first | (refine drw (by decide +kernel) ?_; conv => whnf) | (refine fun (_ : Nat) (_ : _ ≤ _) (_ : _ = none) => ?_; conv => whnf)
      refine ⟨(x.1 + 1, H4), ⟨by dsimp only; omega, hi2.mono (fun o ho => hk4 r1 o ho n12), ?_⟩, by dsimp only; omega, ⟨congrArg (fun n => some (SV.v (.int .i64 n))) nx, rfl, rfl, rfl, trivial⟩, ⟨[], rfl⟩, rfl⟩
      show BO H4 r2 (splice _ _ (leB 2 _))
      rw [hv]; exact hb4
    · have hx3 : x.1 = 3 := by omega
      rw [hx3] at hi3
      (conv => whnf); repeat first | (refine drw (by decide +kernel) ?_; conv => whnf) | (refine fun (_ : Nat) (_ : _ ≤ _) (_ : _ = none) => ?_; conv => whnf)
      refine ⟨⟨by decide, by decide⟩, ?_⟩
      (conv => whnf); repeat first | (refine drw (by decide +kernel) ?_; conv => whnf) | (refine fun (_ : Nat) (_ : _ ≤ _) (_ : _ = none) => ?_; conv => whnf)
      have lb : h.blk.length = 16 := by simp [Hd.blk, hm]
      have ls : h.slt.length = 8 := by simp [Hd.slt, hm]
      have l3 := putB3_len g h 3 (Nat.le_refl _)
      refine ⟨bytesV h.blk, (hi2.blkBS hm).full rfl, BO.store hi3 h.blk 16 (by omega) (.inr hB2) ?_⟩
      intro H4 hk4 hb4
      have ho4 : HO H4 r1 h := hi2.mono (fun o ho => hk4 r1 o n12 ho)
      (conv => whnf); repeat first | (refine drw (by decide +kernel) ?_; conv => whnf) | (refine fun (_ : Nat) (_ : _ ≤ _) (_ : _ = none) => ?_; conv => whnf)
      refine ⟨⟨by decide, by decide⟩, ?_⟩
      (conv => whnf); repeat first | (refine drw (by decide +kernel) ?_; conv => whnf) | (refine fun (_ : Nat) (_ : _ ≤ _) (_ : _ = none) => ?_; conv => whnf)
      refine ⟨bytesV h.slt, (ho4.sltBS hm).full rfl, BO.store hb4 h.slt 32 (by rw [splice_length (by omega)]; omega) (.inr hB2) ?_⟩
      intro H5 hk5 hb5
      (conv => whnf); repeat first | (refine drw (by decide +kernel) ?_; conv => whnf) | (refine fun (_ : Nat) (_ : _ ≤ _) (_ : _ = none) => ?_; conv => whnf)
      exact ⟨by rw [if_pos hr]; exact ⟨r2, rfl, hE1.none hN2, hb5⟩⟩

theorem head_parts (bs : List UInt8) (hl : bs.length = 256) :
    splice (splice (List.replicate 24 0) 0 (((bs.drop 16).take (256 - 16)).take 16)) 16 (((bs.drop 32).take (256 - 32)).take 8) = (bs.drop 16).take 24 := by
  have e1 : ((bs.drop 16).take (256 - 16)).take 16 = (bs.drop 16).take 16 := by rw [List.take_take]; rfl
  have e2 : ((bs.drop 32).take (256 - 32)).take 8 = (bs.drop 32).take 8 := by rw [List.take_take]; rfl
  rw [e1, e2]
  have l1 : ((bs.drop 16).take 16).length = 16 := by simp; omega
  have l2 : ((bs.drop 32).take 8).length = 8 := by simp; omega
  have e3 : splice (List.replicate 24 0) 0 ((bs.drop 16).take 16) = (bs.drop 16).take 16 ++ List.replicate 8 0 := by
    unfold splice
    rw [l1, List.take_zero, List.nil_append, List.drop_replicate]
  rw [e3]
  unfold splice
  have e4 : List.drop (16 + 8) ((bs.drop 16).take 16 ++ List.replicate 8 0) = [] := List.drop_of_length_le (by rw [List.length_append, l1, List.length_replicate]; decide)
  rw [l2, List.take_left' l1, e4]
  rw [show (24 : Nat) = 16 + 8 from rfl, List.take_add, List.drop_drop]
  simp

/-- the header that bytes say -/
def hdOf (b : List UInt8) : Hd := ⟨leN ((b.drop 4).take 2), (b.drop 16).take 24⟩
theorem hdOf_len {b : List UInt8} (h : b.length = 256) : (hdOf b).m.length = 24 := by simp [hdOf]; omega

def getH (g : G) (b : List UInt8) : Hd × Int :=
  if g.ok then (if b.length = 256 then (if rightB g (hdOf b) = true ∧ b = hdB g (hdOf b) then (hdOf b, 0) else (hZ, 8)) else (hZ, 4)) else (hZ, 1)

theorem gget_ok {H : HV} {a : Option Addr} {n c : Nat} {bs : List UInt8} (g : G) (w : World) (hs : ∀ i o, H i = some o → w.heap[i]? = some o) (hb : BS H a n c bs) (hn : n < 4611686018427387904) :
    Calls Tryz.prog 133 #[gV g, yV a n c] w (RetP (hVE (getH g bs).1 (getH g bs).2) w) := by
  have hlen := hb.len
  refine fn_pure (args := [gV g, yV a n c]) tabH Tryz.func133 rfl (by kernel_rfl)  hs ?_
  conv => whnf
  intro rg hBg hNg
  conv => whnf
  intro r1 H1 hB1 hN1 hE1
  have ho1 : HO H1 r1 hZ := ⟨_, hE1.new⟩
  (conv => whnf); repeat first | (refine drw (by decide +kernel) ?_; conv => whnf) | (refine fun (_ : Nat) (_ : _ ≤ _) (_ : _ = none) => ?_; conv => whnf)
  (refine VCall.pure_ (by kernel_rfl) (fun w hs => gright_ok _ w) ?_); (conv => whnf); repeat first | (refine drw (by decide +kernel) ?_; conv => whnf) | (refine fun (_ : Nat) (_ : _ ≤ _) (_ : _ = none) => ?_; conv => whnf)
  refine vif_not (fun h1 => ?_) (fun h1 => ?_)
  · (conv => whnf); repeat first | (refine drw (by decide +kernel) ?_; conv => whnf) | (refine fun (_ : Nat) (_ : _ ≤ _) (_ : _ = none) => ?_; conv => whnf)
    refine ⟨rfl, HO.put (h2 := hZ) ho1 rfl (.inr hB1) ?_⟩
    intro H2 hk2 ho2
    (conv => whnf); repeat first | (refine drw (by decide +kernel) ?_; conv => whnf) | (refine fun (_ : Nat) (_ : _ ≤ _) (_ : _ = none) => ?_; conv => whnf)
    refine ⟨_, ho2.agg (by simp [hZ]), ?_⟩
    unfold getH; rw [if_neg h1]; rfl
  · (conv => whnf); repeat first | (refine drw (by decide +kernel) ?_; conv => whnf) | (refine fun (_ : Nat) (_ : _ ≤ _) (_ : _ = none) => ?_; conv => whnf)
    refine vif_not (fun h2 => ?_) (fun h2 => ?_)
    · (conv => whnf); repeat first | (refine drw (by decide +kernel) ?_; conv => whnf) | (refine fun (_ : Nat) (_ : _ ≤ _) (_ : _ = none) => ?_; conv => whnf)
      refine ⟨rfl, HO.put (h2 := hZ) ho1 rfl (.inr hB1) ?_⟩
      intro H2 hk2 ho2
      (conv => whnf); repeat first | (refine drw (by decide +kernel) ?_; conv => whnf) | (refine fun (_ : Nat) (_ : _ ≤ _) (_ : _ = none) => ?_; conv => whnf)
      refine ⟨_, ho2.agg (by simp [hZ]), ?_⟩
      unfold getH; rw [if_pos h1, if_neg (by omega)]; rfl
    · have hn2 : n = 256 := by omega
      subst hn2
      obtain ⟨b, off, rfl⟩ := hb.nonempty (by omega)
      have hcap := hb.le
      have hba := hb.mono hE1.old
      (conv => whnf); repeat first | (refine drw (by decide +kernel) ?_; conv => whnf) | (refine fun (_ : Nat) (_ : _ ≤ _) (_ : _ = none) => ?_; conv => whnf)
      refine ⟨⟨by decide, by decide, by omega⟩, ?_⟩
      (conv => whnf); repeat first | (refine drw (by decide +kernel) ?_; conv => whnf) | (refine fun (_ : Nat) (_ : _ ≤ _) (_ : _ = none) => ?_; conv => whnf)
      (refine VCall.pure_ (by kernel_rfl) (fun w hs => nget_ok w hs (hba.sub 4 6 (by omega) (by omega)) (by omega)) ?_); (conv => whnf); repeat first | (refine drw (by decide +kernel) ?_; conv => whnf) | (refine fun (_ : Nat) (_ : _ ≤ _) (_ : _ = none) => ?_; conv => whnf)
      intro r2 H2 hB2 hN2 hE2
      have n12 : r1 ≠ r2 := fun e => by subst e; rw [hE1.new] at hN2; cases hN2
      have ho2 : HO H2 r2 hZ := ⟨_, hE2.new⟩
      have hlv := leN_lt ((bs.drop 4).take 2)
      have hl2 : ((bs.drop 4).take 2).length = 2 := by simp; omega
      rw [hl2] at hlv
      have ew : IntKind.i64.wrap ((leN ((bs.drop 4).take 2) : Nat) : Int) = (leN ((bs.drop 4).take 2) : Nat) := wrap64 (by omega)
      (conv => whnf); repeat first | (refine drw (by decide +kernel) ?_; conv => whnf) | (refine fun (_ : Nat) (_ : _ ≤ _) (_ : _ = none) => ?_; conv => whnf)
      refine ⟨rfl, HO.put (h2 := ⟨IntKind.i64.wrap ((leN ((bs.drop 4).take 2) : Nat) : Int), List.replicate 24 0⟩) ho2 (by simp only [hZ]) (.inr hB2) ?_⟩
      intro H3 hk3 ho3
      rw [ew] at ho3
      have ho13 : HO H3 r1 hZ := ho1.mono (fun o ho => hk3 r1 o n12 (hE2.old _ _ ho))
      have hnb : ∀ i o, H i = some o → i ≠ r2 := fun i o hi e => by subst e; rw [hE1.old _ _ hi] at hN2; cases hN2
      have hb3 : BS H3 (some ⟨b, off, none⟩) 256 c bs := hb.mono (fun i o hi => hk3 i o (hnb i o hi) (hE2.old _ _ (hE1.old _ _ hi)))
      have lx : (((bs.drop 16).take (256 - 16)).take 16).length = 16 := by simp; omega
      have ly : (((bs.drop 32).take (256 - 32)).take 8).length = 8 := by simp; omega
      (conv => whnf); repeat first | (refine drw (by decide +kernel) ?_; conv => whnf) | (refine fun (_ : Nat) (_ : _ ≤ _) (_ : _ = none) => ?_; conv => whnf)
      refine ⟨⟨by decide, by omega⟩, ?_⟩
      (conv => whnf); repeat first | (refine drw (by decide +kernel) ?_; conv => whnf) | (refine fun (_ : Nat) (_ : _ ≤ _) (_ : _ = none) => ?_; conv => whnf)
      have hs16 := hb3.sub 16 256 (by omega) (by omega)
      refine ⟨bytesV (((bs.drop 16).take (256 - 16)).take 16), hs16.take 16 (by omega), HO.store ho3 _ 0 (by show 0 + _ ≤ (List.replicate 24 0).length; rw [lx, List.length_replicate]; decide) (.inr hB2) ?_⟩
      intro H4 hk4 ho4
      have ho14 : HO H4 r1 hZ := ho13.mono (fun o ho => hk4 r1 o n12 ho)
      have hb4 : BS H4 (some ⟨b, off, none⟩) 256 c bs := hb.mono (fun i o hi => hk4 i o (hnb i o hi) (hk3 i o (hnb i o hi) (hE2.old _ _ (hE1.old _ _ hi))))
      (conv => whnf); repeat first | (refine drw (by decide +kernel) ?_; conv => whnf) | (refine fun (_ : Nat) (_ : _ ≤ _) (_ : _ = none) => ?_; conv => whnf)
      refine ⟨⟨by decide, by omega⟩, ?_⟩
      (conv => whnf); repeat first | (refine drw (by decide +kernel) ?_; conv => whnf) | (refine fun (_ : Nat) (_ : _ ≤ _) (_ : _ = none) => ?_; conv => whnf)
      have hs32 := hb4.sub 32 256 (by omega) (by omega)
      refine ⟨bytesV (((bs.drop 32).take (256 - 32)).take 8), hs32.take 8 (by omega), HO.store ho4 _ 16 (by show 16 + _ ≤ (splice (List.replicate 24 0) 0 _).length; rw [ly, splice_length (by rw [lx, List.length_replicate]; decide), List.length_replicate]; decide) (.inr hB2) ?_⟩
      intro H5 hk5 ho5
      have ho15 : HO H5 r1 hZ := ho14.mono (fun o ho => hk5 r1 o n12 ho)
      have hb5 : BS H5 (some ⟨b, off, none⟩) 256 c bs := hb.mono (fun i o hi => hk5 i o (hnb i o hi) (hk4 i o (hnb i o hi) (hk3 i o (hnb i o hi) (hE2.old _ _ (hE1.old _ _ hi)))))
      have ho5' : HO H5 r2 (hdOf bs) := by
        have e : (⟨(⟨((leN ((bs.drop 4).take 2) : Nat) : Int), List.replicate 24 0⟩ : Hd).no, splice (splice (List.replicate 24 0) 0 (((bs.drop 16).take (256 - 16)).take 16)) 16 (((bs.drop 32).take (256 - 32)).take 8)⟩ : Hd) = hdOf bs := by
          unfold hdOf
          congr 1
          exact head_parts bs hlen
        rw [← e]; exact ho5
      have hm5 := hdOf_len hlen
      (conv => whnf); repeat first | (refine drw (by decide +kernel) ?_; conv => whnf) | (refine fun (_ : Nat) (_ : _ ≤ _) (_ : _ = none) => ?_; conv => whnf)
      refine ⟨_, ho5'.agg hm5, ?_⟩
      (conv => whnf); repeat first | (refine drw (by decide +kernel) ?_; conv => whnf) | (refine fun (_ : Nat) (_ : _ ≤ _) (_ : _ = none) => ?_; conv => whnf)
      (refine VCall.ret (by kernel_rfl) (fun w hs => gput_ok g (hdOf bs) hm5 w hs) ?_ ?_)
      · exact fun i h => h.elim
      rintro v1 H6 hk6 hd6 ⟨hp⟩
      have ho16 : HO H6 r1 hZ := ho15.mono (fun o ho => hk6 _ _ ho (fun h => h))
      have ho26 : HO H6 r2 (hdOf bs) := ho5'.mono (fun o ho => hk6 _ _ ho (fun h => h))
      have hb6 : BS H6 (some ⟨b, off, none⟩) 256 c bs := hb5.mono (fun i o hi => hk6 _ _ hi (fun h => h))
      have hg : getH g bs = if rightB g (hdOf bs) = true ∧ bs = hdB g (hdOf bs) then (hdOf bs, 0) else (hZ, 8) := by
        unfold getH; rw [if_pos h1, if_pos hlen]
      by_cases hr : rightB g (hdOf bs) = true
      · rw [if_pos hr] at hp
        obtain ⟨r6, rfl, hn6, hb66⟩ := hp
        have hl6 := hdB_len g (hdOf bs) hm5
        (conv => whnf); repeat first | (refine drw (by decide +kernel) ?_; conv => whnf) | (refine fun (_ : Nat) (_ : _ ≤ _) (_ : _ = none) => ?_; conv => whnf)
        (refine VCall.pure_ (by kernel_rfl) (fun w hs => ndiff_ok w hs hb6 (hb66.all' hl6 256 (by omega)) (by omega) (by omega)) ?_); (conv => whnf); repeat first | (refine drw (by decide +kernel) ?_; conv => whnf) | (refine fun (_ : Nat) (_ : _ ≤ _) (_ : _ = none) => ?_; conv => whnf)
        have hds := diffS_eq bs (hdB g (hdOf bs))
        have hdm := diffS_small bs (hdB g (hdOf bs)) (max bs.length (hdB g (hdOf bs)).length)
        rw [hlen, hl6] at hds hdm
        refine vif_dec (fun h7 => ?_) (fun h7 => ?_)
        · have hg' : getH g bs = (hZ, 8) := by
            rw [hg, if_neg (fun h => by have := hds.2 h.2; change ¬ _ at *; have h8 : (diffS bs (hdB g (hdOf bs)) 256).1 ≥ 0 := h7; change (diffS bs (hdB g (hdOf bs)) 256).1 < 0 at this; omega)]
          rw [hg']
          (conv => whnf); repeat first | (refine drw (by decide +kernel) ?_; conv => whnf) | (refine fun (_ : Nat) (_ : _ ≤ _) (_ : _ = none) => ?_; conv => whnf)
          refine ⟨rfl, HO.put (h2 := hZ) ho16 rfl (.inr hB1) ?_⟩
          intro H7 hk7 ho7
          (conv => whnf); repeat first | (refine drw (by decide +kernel) ?_; conv => whnf) | (refine fun (_ : Nat) (_ : _ ≤ _) (_ : _ = none) => ?_; conv => whnf)
          exact ⟨_, ho7.agg (by simp [hZ]), rfl⟩
        · have hg' : getH g bs = (hdOf bs, 0) := by
            rw [hg, if_pos ⟨hr, hds.1 (by have h8 : ¬ (diffS bs (hdB g (hdOf bs)) 256).1 ≥ 0 := h7; show (diffS bs (hdB g (hdOf bs)) 256).1 < 0; omega)⟩]
          rw [hg']
          (conv => whnf); repeat first | (refine drw (by decide +kernel) ?_; conv => whnf) | (refine fun (_ : Nat) (_ : _ ≤ _) (_ : _ = none) => ?_; conv => whnf)
          refine ⟨_, ho26.agg hm5, ?_⟩
          (conv => whnf); repeat first | (refine drw (by decide +kernel) ?_; conv => whnf) | (refine fun (_ : Nat) (_ : _ ≤ _) (_ : _ = none) => ?_; conv => whnf)
          refine ⟨by show (hL _).length = 25; simp [hL, bytesV, hm5], HO.put (h2 := hdOf bs) ho16 (by rw [hm5]; rfl) (.inr hB1) ?_⟩
          intro H7 hk7 ho7
          (conv => whnf); repeat first | (refine drw (by decide +kernel) ?_; conv => whnf) | (refine fun (_ : Nat) (_ : _ ≤ _) (_ : _ = none) => ?_; conv => whnf)
          exact ⟨_, ho7.agg hm5, rfl⟩
      · rw [if_neg hr] at hp
        have hg' : getH g bs = (hZ, 8) := by rw [hg, if_neg (fun h => hr h.1)]
        rw [hg']
        subst hp
        (conv => whnf); repeat first | (refine drw (by decide +kernel) ?_; conv => whnf) | (refine fun (_ : Nat) (_ : _ ≤ _) (_ : _ = none) => ?_; conv => whnf)
        (refine VCall.pure_ (by kernel_rfl) (fun w hs => ndiff_ok w hs hb6 (BS_nil H6) (by omega) (by omega)) ?_); (conv => whnf); repeat first | (refine drw (by decide +kernel) ?_; conv => whnf) | (refine fun (_ : Nat) (_ : _ ≤ _) (_ : _ = none) => ?_; conv => whnf)
        (conv => whnf); repeat first | (refine drw (by decide +kernel) ?_; conv => whnf) | (refine fun (_ : Nat) (_ : _ ≤ _) (_ : _ = none) => ?_; conv => whnf)
        refine ⟨rfl, HO.put (h2 := hZ) ho16 rfl (.inr hB1) ?_⟩
        intro H7 hk7 ho7
        (conv => whnf); repeat first | (refine drw (by decide +kernel) ?_; conv => whnf) | (refine fun (_ : Nat) (_ : _ ≤ _) (_ : _ = none) => ?_; conv => whnf)
        exact ⟨_, ho7.agg (by simp [hZ]), rfl⟩
end Go.Proofs.YtlkgjffffeohdaaGreat
