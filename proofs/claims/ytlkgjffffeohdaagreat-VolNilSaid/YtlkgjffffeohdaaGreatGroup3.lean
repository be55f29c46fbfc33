/- What a group's header says: its parts used and found. -/
import Derived.Test.YtlkgjffffeohdaaGreatGroup2
set_option linter.unusedVariables false
set_option linter.unusedSimpArgs false
namespace Go.Proofs.YtlkgjffffeohdaaGreat
open Go Go.Eng Go.Proofs

theorem guse_ok {H : HV} {r : Nat} {h : Hd} (on : Bool) (o off n i : Nat) (w : World) (hs : ∀ i o, H i = some o → w.heap[i]? = some o) (ho : HO H r h) (hm : h.m.length = 24) (hoo : o = 1 + off) (hl : off + n ≤ 24) (hi : i < 8 * n) :
    Calls Tryz.prog 267 #[yV (some ⟨r, o, none⟩) n n, iV i, bV on] w (Ret H (fun j => j = r) (fun v H1 => Is (
      if bitN ((h.m.drop off).take n) i = on then v = iV 6 ∧ HO H1 r h else v = iV 0 ∧ HO H1 r ⟨h.no, splice h.m off (setB ((h.m.drop off).take n) i on)⟩)) w) := by
  subst hoo
  have hb := ho.bs off n n (by omega) (Nat.le_refl n)
  have hlen := hb.len
  generalize hsub : (h.m.drop off).take n = bs at *
  refine fn_ret (args := [yV (some ⟨r, 1 + off, none⟩) n n, iV i, bV on]) tabH Tryz.func267 rfl (by kernel_rfl)  hs ?_
  (conv => whnf); repeat first | (refine drw (by decide +kernel) ?_; conv => whnf) | (refine fun (_ : Nat) (_ : _ ≤ _) (_ : _ = none) => ?_; conv => whnf)
  (refine VCall.pure_ (by kernel_rfl) (fun w hs => bget_ok _ w hs hb (by omega)) ?_); (conv => whnf); repeat first | (refine drw (by decide +kernel) ?_; conv => whnf) | (refine fun (_ : Nat) (_ : _ ≤ _) (_ : _ = none) => ?_; conv => whnf)
  have e : bitZ bs (i : Int) = bitN bs i := by simp [bitZ]
  rw [e]
  refine vif_intro (fun h1 => ?_) (fun h1 => ?_)
  · (conv => whnf); repeat first | (refine drw (by decide +kernel) ?_; conv => whnf) | (refine fun (_ : Nat) (_ : _ ≤ _) (_ : _ = none) => ?_; conv => whnf)
    have : bitN bs i = on := by simpa using h1
    exact ⟨by rw [if_pos this]; exact ⟨rfl, ho⟩⟩
  · have h2 : ¬ bitN bs i = on := by simpa using h1
    (conv => whnf); repeat first | (refine drw (by decide +kernel) ?_; conv => whnf) | (refine fun (_ : Nat) (_ : _ ≤ _) (_ : _ = none) => ?_; conv => whnf)
    (refine VCall.ret (by kernel_rfl) (fun w hs => bset_ok (i : Int) on w hs hb (by omega)) ?_ ?_)
    · exact fun i h => h.elim
    rintro v1 H1 hk1 hd1 ⟨hp⟩
    rw [if_pos (by omega)] at hp
    obtain ⟨r1, rfl, hn1, hb1⟩ := hp
    have ho1 : HO H1 r h := ho.mono (fun o ho => hk1 _ _ ho (fun h => h))
    have hl1 := setB_length bs i on
    (conv => whnf); repeat first | (refine drw (by decide +kernel) ?_; conv => whnf) | (refine fun (_ : Nat) (_ : _ ≤ _) (_ : _ = none) => ?_; conv => whnf)
    refine ⟨bytesV (setB bs i on), (hb1.all' (by rw [setB_length]; exact hlen) n (Nat.le_refl n)).full (Nat.min_self n), HO.store ho1 _ off (by omega) (.inl rfl) ?_⟩
    intro H2 hk2 ho2
    (conv => whnf); repeat first | (refine drw (by decide +kernel) ?_; conv => whnf) | (refine fun (_ : Nat) (_ : _ ≤ _) (_ : _ = none) => ?_; conv => whnf)
    exact ⟨by rw [if_neg h2]; exact ⟨rfl, ho2⟩⟩

theorem gmay_ok (g : G) (h : Hd) (hm : h.m.length = 24) (i lo hi : Int) (w : World) : Calls Tryz.prog 266 #[gV g, hV h, iV i, iV lo, iV hi] w
    (RetP (iV (if rightB g h then (if i < lo ∨ i ≥ hi then 3 else 0) else 1)) w) := by
  refine fn_pure (H0 := (fun _ => none)) (args := [gV g, hV h, iV i, iV lo, iV hi]) tabH Tryz.func266 rfl (by kernel_rfl)  (fun _ _ h => by cases h) ?_
  (conv => whnf); repeat first | (refine drw (by decide +kernel) ?_; conv => whnf) | (refine fun (_ : Nat) (_ : _ ≤ _) (_ : _ = none) => ?_; conv => whnf)
  intro r1 H1 hB1 hN1 hE1
  have ho1 : HO H1 r1 h := ⟨_, hE1.new⟩
  (conv => whnf); repeat first | (refine drw (by decide +kernel) ?_; conv => whnf) | (refine fun (_ : Nat) (_ : _ ≤ _) (_ : _ = none) => ?_; conv => whnf)
  refine ⟨_, ho1.agg hm, ?_⟩
  (conv => whnf); repeat first | (refine drw (by decide +kernel) ?_; conv => whnf) | (refine fun (_ : Nat) (_ : _ ≤ _) (_ : _ = none) => ?_; conv => whnf)
  (refine VCall.pure_ (by kernel_rfl) (fun w hs => right_ok _ h hm w) ?_); (conv => whnf); repeat first | (refine drw (by decide +kernel) ?_; conv => whnf) | (refine fun (_ : Nat) (_ : _ ≤ _) (_ : _ = none) => ?_; conv => whnf)
  refine vif_intro (fun h1 => ?_) (fun h1 => ?_)
  · (conv => whnf); repeat first | (refine drw (by decide +kernel) ?_; conv => whnf) | (refine fun (_ : Nat) (_ : _ ≤ _) (_ : _ = none) => ?_; conv => whnf)
    rw [if_neg (by simpa using h1)]; rfl
  · have hr : rightB g h = true := by simpa using h1
    rw [if_pos hr]
    (conv => whnf); repeat first | (refine drw (by decide +kernel) ?_; conv => whnf) | (refine fun (_ : Nat) (_ : _ ≤ _) (_ : _ = none) => ?_; conv => whnf)
    refine vif_dec (fun h2 => ?_) (fun h2 => ?_)
    · (conv => whnf); repeat first | (refine drw (by decide +kernel) ?_; conv => whnf) | (refine fun (_ : Nat) (_ : _ ≤ _) (_ : _ = none) => ?_; conv => whnf)
      rw [if_pos (.inl h2)]; rfl
    · (conv => whnf); repeat first | (refine drw (by decide +kernel) ?_; conv => whnf) | (refine fun (_ : Nat) (_ : _ ≤ _) (_ : _ = none) => ?_; conv => whnf)
      refine vif_dec (fun h3 => ?_) (fun h3 => ?_)
      · (conv => whnf); repeat first | (refine drw (by decide +kernel) ?_; conv => whnf) | (refine fun (_ : Nat) (_ : _ ≤ _) (_ : _ = none) => ?_; conv => whnf)
        rw [if_pos (.inr h3)]; rfl
      · (conv => whnf); repeat first | (refine drw (by decide +kernel) ?_; conv => whnf) | (refine fun (_ : Nat) (_ : _ ≤ _) (_ : _ = none) => ?_; conv => whnf)
        rw [if_neg (by omega)]; rfl

theorem gfind_ok (g : G) (h : Hd) (hm : h.m.length = 24) (from_ : Int) (w : World) : Calls Tryz.prog 197 #[gV g, hV h, iV from_] w
    (RetP (iV (if rightB g h then firstB h.blk g.gr from_ else -1)) w) := by
  refine fn_pure (H0 := (fun _ => none)) (args := [gV g, hV h, iV from_]) tabH Tryz.func197 rfl (by kernel_rfl)  (fun _ _ h => by cases h) ?_
  (conv => whnf); repeat first | (refine drw (by decide +kernel) ?_; conv => whnf) | (refine fun (_ : Nat) (_ : _ ≤ _) (_ : _ = none) => ?_; conv => whnf)
  intro r1 H1 hB1 hN1 hE1
  have ho1 : HO H1 r1 h := ⟨_, hE1.new⟩
  (conv => whnf); repeat first | (refine drw (by decide +kernel) ?_; conv => whnf) | (refine fun (_ : Nat) (_ : _ ≤ _) (_ : _ = none) => ?_; conv => whnf)
  refine ⟨_, ho1.agg hm, ?_⟩
  (conv => whnf); repeat first | (refine drw (by decide +kernel) ?_; conv => whnf) | (refine fun (_ : Nat) (_ : _ ≤ _) (_ : _ = none) => ?_; conv => whnf)
  (refine VCall.pure_ (by kernel_rfl) (fun w hs => right_ok _ h hm w) ?_); (conv => whnf); repeat first | (refine drw (by decide +kernel) ?_; conv => whnf) | (refine fun (_ : Nat) (_ : _ ≤ _) (_ : _ = none) => ?_; conv => whnf)
  refine vif_intro (fun h1 => ?_) (fun h1 => ?_)
  · (conv => whnf); repeat first | (refine drw (by decide +kernel) ?_; conv => whnf) | (refine fun (_ : Nat) (_ : _ ≤ _) (_ : _ = none) => ?_; conv => whnf)
    rw [if_neg (by simpa using h1)]; rfl
  · have hr : rightB g h = true := by simpa using h1
    rw [if_pos hr]
    (conv => whnf); repeat first | (refine drw (by decide +kernel) ?_; conv => whnf) | (refine fun (_ : Nat) (_ : _ ≤ _) (_ : _ = none) => ?_; conv => whnf)
    (refine VCall.pure_ (by kernel_rfl) (fun w hs => bfirst_ok _ _ w hs (ho1.blkBS hm) (by omega)) ?_); (conv => whnf); repeat first | (refine drw (by decide +kernel) ?_; conv => whnf) | (refine fun (_ : Nat) (_ : _ ≤ _) (_ : _ = none) => ?_; conv => whnf)

theorem gfindS_ok (g : G) (h : Hd) (hm : h.m.length = 24) (from_ : Int) (w : World) : Calls Tryz.prog 200 #[gV g, hV h, iV from_] w
    (RetP (iV (if rightB g h then firstB h.slt g.inn from_ else -1)) w) := by
  refine fn_pure (H0 := (fun _ => none)) (args := [gV g, hV h, iV from_]) tabH Tryz.func200 rfl (by kernel_rfl)  (fun _ _ h => by cases h) ?_
  (conv => whnf); repeat first | (refine drw (by decide +kernel) ?_; conv => whnf) | (refine fun (_ : Nat) (_ : _ ≤ _) (_ : _ = none) => ?_; conv => whnf)
  intro r1 H1 hB1 hN1 hE1
  have ho1 : HO H1 r1 h := ⟨_, hE1.new⟩
  (conv => whnf); repeat first | (refine drw (by decide +kernel) ?_; conv => whnf) | (refine fun (_ : Nat) (_ : _ ≤ _) (_ : _ = none) => ?_; conv => whnf)
  refine ⟨_, ho1.agg hm, ?_⟩
  (conv => whnf); repeat first | (refine drw (by decide +kernel) ?_; conv => whnf) | (refine fun (_ : Nat) (_ : _ ≤ _) (_ : _ = none) => ?_; conv => whnf)
  (refine VCall.pure_ (by kernel_rfl) (fun w hs => right_ok _ h hm w) ?_); (conv => whnf); repeat first | (refine drw (by decide +kernel) ?_; conv => whnf) | (refine fun (_ : Nat) (_ : _ ≤ _) (_ : _ = none) => ?_; conv => whnf)
  refine vif_intro (fun h1 => ?_) (fun h1 => ?_)
  · (conv => whnf); repeat first | (refine drw (by decide +kernel) ?_; conv => whnf) | (refine fun (_ : Nat) (_ : _ ≤ _) (_ : _ = none) => ?_; conv => whnf)
    rw [if_neg (by simpa using h1)]; rfl
  · have hr : rightB g h = true := by simpa using h1
    rw [if_pos hr]
    (conv => whnf); repeat first | (refine drw (by decide +kernel) ?_; conv => whnf) | (refine fun (_ : Nat) (_ : _ ≤ _) (_ : _ = none) => ?_; conv => whnf)
    (refine VCall.pure_ (by kernel_rfl) (fun w hs => bfirst_ok _ _ w hs (ho1.sltBS hm) (by omega)) ?_); (conv => whnf); repeat first | (refine drw (by decide +kernel) ?_; conv => whnf) | (refine fun (_ : Nat) (_ : _ ≤ _) (_ : _ = none) => ?_; conv => whnf)

def useB (g : G) (h : Hd) (i : Int) (on : Bool) : Hd × Int :=
  if rightB g h then (if i < 1 + g.tables ∨ i ≥ g.gr then (hZ, 3) else if bitN h.blk i.toNat = on then (hZ, 6) else (⟨h.no, splice h.m 0 (setB h.blk i.toNat on)⟩, 0)) else (hZ, 1)

theorem useB_len (g : G) (h : Hd) (i : Int) (on : Bool) (hm : h.m.length = 24) : (useB g h i on).1.m.length = 24 := by
  unfold useB
  split
  · split
    · simp [hZ]
    · split
      · simp [hZ]
      · show (splice _ _ _).length = 24
        rw [splice_length (by simp [setB_length, Hd.blk]; omega)]; exact hm
  · simp [hZ]

theorem guseB_ok (g : G) (h : Hd) (hm : h.m.length = 24) (i : Int) (on : Bool) (w : World) : Calls Tryz.prog 198 #[gV g, hV h, iV i, bV on] w
    (RetP (hVE (useB g h i on).1 (useB g h i on).2) w) := by
  refine fn_pure (H0 := (fun _ => none)) (args := [gV g, hV h, iV i, bV on]) tabH Tryz.func198 rfl (by kernel_rfl)  (fun _ _ h => by cases h) ?_
  have ht := tables_small g
  conv => whnf
  intro rg hBg hNg
  conv => whnf
  intro r1 H1 hB1 hN1 hE1
  have ho1 : HO H1 r1 h := ⟨_, hE1.new⟩
  conv => whnf
  intro r2 H2 hB2 hN2 hE2
  have n12 : r1 ≠ r2 := fun e => by subst e; rw [hE1.new] at hN2; cases hN2
  have ho2 : HO H2 r2 hZ := ⟨_, hE2.new⟩
  have ho12 : HO H2 r1 h := ho1.mono (fun o ho => hE2.old _ _ ho)
  conv => whnf
  refine VDraw.list [(rg, 0, [iV g.gr, iV g.inn, iV g.gs]), (r1, 0, hL h)] [0, 1, 7] (List.range 10) tabH mixH (by kernel_rfl) ⟨.inr ⟨0, _, _, rfl, rfl, rfl⟩, ho12.known hm _, trivial⟩ ?_
  (conv => whnf); repeat (first | (refine fun (_ : Nat) (_ : _ ≤ _) (_ : _ = none) => ?_; conv => whnf) | (refine drw (by decide +kernel) ?_; conv => whnf) | (refine And.intro ?_ ?_; (focus (first | ((repeat (first | exact trivial | ((conv => whnf); refine And.intro (by first | exact .inr ⟨0, _, _, rfl, rfl, rfl⟩ | exact .inr ⟨1, _, _, rfl, rfl, rfl⟩ | exact .inr ⟨2, _, _, rfl, rfl, rfl⟩ | exact .inr ⟨3, _, _, rfl, rfl, rfl⟩ | assumption) ?_))); done) | ((conv => whnf); first | exact ⟨0, 0, _, _, _, rfl, (Nat.zero_add _).symm, rfl, rfl⟩ | exact ⟨1, 0, _, _, _, rfl, (Nat.zero_add _).symm, rfl, rfl⟩ | exact ⟨2, 0, _, _, _, rfl, (Nat.zero_add _).symm, rfl, rfl⟩ | exact ⟨3, 0, _, _, _, rfl, (Nat.zero_add _).symm, rfl, rfl⟩ | exact ⟨0, _, 0, _, _, rfl, rfl, rfl, rfl⟩ | exact ⟨1, _, 0, _, _, rfl, rfl, rfl, rfl⟩ | exact ⟨2, _, 0, _, _, rfl, rfl, rfl, rfl⟩ | exact ⟨3, _, 0, _, _, rfl, rfl, rfl, rfl⟩))); conv => whnf))
  refine ⟨⟨1, 0, 0, _, hL h, rfl, rfl, takeV_hL h hm, rfl⟩, ?_⟩
  (conv => whnf); repeat (first | (refine fun (_ : Nat) (_ : _ ≤ _) (_ : _ = none) => ?_; conv => whnf) | (refine drw (by decide +kernel) ?_; conv => whnf) | (refine And.intro ?_ ?_; (focus (first | ((repeat (first | exact trivial | ((conv => whnf); refine And.intro (by first | exact .inr ⟨0, _, _, rfl, rfl, rfl⟩ | exact .inr ⟨1, _, _, rfl, rfl, rfl⟩ | exact .inr ⟨2, _, _, rfl, rfl, rfl⟩ | exact .inr ⟨3, _, _, rfl, rfl, rfl⟩ | assumption) ?_))); done) | ((conv => whnf); first | exact ⟨0, 0, _, _, _, rfl, (Nat.zero_add _).symm, rfl, rfl⟩ | exact ⟨1, 0, _, _, _, rfl, (Nat.zero_add _).symm, rfl, rfl⟩ | exact ⟨2, 0, _, _, _, rfl, (Nat.zero_add _).symm, rfl, rfl⟩ | exact ⟨3, 0, _, _, _, rfl, (Nat.zero_add _).symm, rfl, rfl⟩ | exact ⟨0, _, 0, _, _, rfl, rfl, rfl, rfl⟩ | exact ⟨1, _, 0, _, _, rfl, rfl, rfl, rfl⟩ | exact ⟨2, _, 0, _, _, rfl, rfl, rfl, rfl⟩ | exact ⟨3, _, 0, _, _, rfl, rfl, rfl, rfl⟩))); conv => whnf))
  refine ⟨_, ho12.agg hm, ?_⟩
  (conv => whnf); repeat (first | (refine fun (_ : Nat) (_ : _ ≤ _) (_ : _ = none) => ?_; conv => whnf) | (refine drw (by decide +kernel) ?_; conv => whnf) | (refine And.intro ?_ ?_; (focus (first | ((repeat (first | exact trivial | ((conv => whnf); refine And.intro (by first | exact .inr ⟨0, _, _, rfl, rfl, rfl⟩ | exact .inr ⟨1, _, _, rfl, rfl, rfl⟩ | exact .inr ⟨2, _, _, rfl, rfl, rfl⟩ | exact .inr ⟨3, _, _, rfl, rfl, rfl⟩ | assumption) ?_))); done) | ((conv => whnf); first | exact ⟨0, 0, _, _, _, rfl, (Nat.zero_add _).symm, rfl, rfl⟩ | exact ⟨1, 0, _, _, _, rfl, (Nat.zero_add _).symm, rfl, rfl⟩ | exact ⟨2, 0, _, _, _, rfl, (Nat.zero_add _).symm, rfl, rfl⟩ | exact ⟨3, 0, _, _, _, rfl, (Nat.zero_add _).symm, rfl, rfl⟩ | exact ⟨0, _, 0, _, _, rfl, rfl, rfl, rfl⟩ | exact ⟨1, _, 0, _, _, rfl, rfl, rfl, rfl⟩ | exact ⟨2, _, 0, _, _, rfl, rfl, rfl, rfl⟩ | exact ⟨3, _, 0, _, _, rfl, rfl, rfl, rfl⟩))); conv => whnf))
  (refine VCall.pure_ (by kernel_rfl) (fun w hs => gtables_ok _ w) ?_); (conv => whnf); repeat first | (refine drw (by decide +kernel) ?_; conv => whnf) | (refine fun (_ : Nat) (_ : _ ≤ _) (_ : _ = none) => ?_; conv => whnf)
  refine ⟨⟨.inr ⟨0, _, _, rfl, rfl, rfl⟩, ho12.known hm _, trivial⟩, ?_⟩
  (conv => whnf); repeat (first | (refine fun (_ : Nat) (_ : _ ≤ _) (_ : _ = none) => ?_; conv => whnf) | (refine drw (by decide +kernel) ?_; conv => whnf) | (refine And.intro ?_ ?_; (focus (first | ((repeat (first | exact trivial | ((conv => whnf); refine And.intro (by first | exact .inr ⟨0, _, _, rfl, rfl, rfl⟩ | exact .inr ⟨1, _, _, rfl, rfl, rfl⟩ | exact .inr ⟨2, _, _, rfl, rfl, rfl⟩ | exact .inr ⟨3, _, _, rfl, rfl, rfl⟩ | assumption) ?_))); done) | ((conv => whnf); first | exact ⟨0, 0, _, _, _, rfl, (Nat.zero_add _).symm, rfl, rfl⟩ | exact ⟨1, 0, _, _, _, rfl, (Nat.zero_add _).symm, rfl, rfl⟩ | exact ⟨2, 0, _, _, _, rfl, (Nat.zero_add _).symm, rfl, rfl⟩ | exact ⟨3, 0, _, _, _, rfl, (Nat.zero_add _).symm, rfl, rfl⟩ | exact ⟨0, _, 0, _, _, rfl, rfl, rfl, rfl⟩ | exact ⟨1, _, 0, _, _, rfl, rfl, rfl, rfl⟩ | exact ⟨2, _, 0, _, _, rfl, rfl, rfl, rfl⟩ | exact ⟨3, _, 0, _, _, rfl, rfl, rfl, rfl⟩))); conv => whnf))
  rw [wrap64 (by omega)]
  (refine VCall.pure_ (by kernel_rfl) (fun w hs => gmay_ok g h hm _ _ _ w) ?_); (conv => whnf); repeat first | (refine drw (by decide +kernel) ?_; conv => whnf) | (refine fun (_ : Nat) (_ : _ ≤ _) (_ : _ = none) => ?_; conv => whnf)
  refine ⟨⟨.inr ⟨0, _, _, rfl, rfl, rfl⟩, ho12.known hm _, trivial⟩, ?_⟩
  have lb : h.blk.length = 16 := by simp [Hd.blk, hm]
  by_cases hr : rightB g h = true
  · have hk := (gok_iff g).1 (rightB_ok hr).1
    rw [if_pos hr]
    by_cases hi : i < 1 + g.tables ∨ i ≥ g.gr
    · rw [if_pos hi]
      (conv => whnf); repeat first | (refine drw (by decide +kernel) ?_; conv => whnf) | (refine fun (_ : Nat) (_ : _ ≤ _) (_ : _ = none) => ?_; conv => whnf)
      refine ⟨rfl, HO.put (h2 := hZ) ho2 rfl (.inr hB2) ?_⟩
      intro H3 hk3 ho3
      (conv => whnf); repeat first | (refine drw (by decide +kernel) ?_; conv => whnf) | (refine fun (_ : Nat) (_ : _ ≤ _) (_ : _ = none) => ?_; conv => whnf)
      refine ⟨_, ho3.agg (by simp [hZ]), ?_⟩
      unfold useB; rw [if_pos hr, if_pos hi]; rfl
    · rw [if_neg hi]
      obtain ⟨k, rfl⟩ : ∃ k : Nat, i = k := ⟨i.toNat, by omega⟩
      (conv => whnf); repeat first | (refine drw (by decide +kernel) ?_; conv => whnf) | (refine fun (_ : Nat) (_ : _ ≤ _) (_ : _ = none) => ?_; conv => whnf)
      (refine VCall.ret (by kernel_rfl) (fun w hs => guse_ok on (0 + 1) 0 16 k w hs ho12 hm rfl (by decide) (by omega)) ?_ ?_)
      · rintro j rfl
        exact ⟨(let ⟨_, h⟩ := ho12; ⟨_, h⟩), .inr hB1⟩
      rintro v1 H3 hk3 hd3 ⟨hp⟩
      have ho23 : HO H3 r2 hZ := ho2.mono (fun o ho => hk3 _ _ ho (fun e => n12 e.symm))
      by_cases hb : bitN ((h.m.drop 0).take 16) k = on
      · rw [if_pos hb] at hp
        have hb' : bitN h.blk ((k : Int).toNat) = on := hb
        obtain ⟨rfl, ho13⟩ := hp
        have hu : useB g h (k : Int) on = (hZ, 6) := by unfold useB; rw [if_pos hr, if_neg hi, if_pos hb']
        rw [hu]
        (conv => whnf); repeat first | (refine drw (by decide +kernel) ?_; conv => whnf) | (refine fun (_ : Nat) (_ : _ ≤ _) (_ : _ = none) => ?_; conv => whnf)
        refine ⟨rfl, HO.put (h2 := hZ) ho23 rfl (.inr hB2) ?_⟩
        intro H4 hk4 ho4
        (conv => whnf); repeat first | (refine drw (by decide +kernel) ?_; conv => whnf) | (refine fun (_ : Nat) (_ : _ ≤ _) (_ : _ = none) => ?_; conv => whnf)
        exact ⟨_, ho4.agg (by simp [hZ]), rfl⟩
      · rw [if_neg hb] at hp
        obtain ⟨rfl, ho13⟩ := hp
        have hu : useB g h (k : Int) on = (⟨h.no, splice h.m 0 (setB h.blk k on)⟩, 0) := by
          have hb' : ¬ bitN h.blk ((k : Int).toNat) = on := hb
          unfold useB; rw [if_pos hr, if_neg hi, if_neg hb']; rfl
        have hul := useB_len g h (k : Int) on hm
        rw [hu] at hul ⊢
        dsimp only at hul
        (conv => whnf); repeat first | (refine drw (by decide +kernel) ?_; conv => whnf) | (refine fun (_ : Nat) (_ : _ ≤ _) (_ : _ = none) => ?_; conv => whnf)
        refine ⟨_, ho13.agg hul, ?_⟩
        (conv => whnf); repeat first | (refine drw (by decide +kernel) ?_; conv => whnf) | (refine fun (_ : Nat) (_ : _ ≤ _) (_ : _ = none) => ?_; conv => whnf)
        refine ⟨by show (hL _).length = 25; simp only [hL, bytesV, List.length_cons, List.length_map]; exact congrArg (· + 1) hul, HO.put (h2 := ⟨h.no, splice h.m 0 (setB h.blk k on)⟩) ho23 (by rw [hul]; rfl) (.inr hB2) ?_⟩
        intro H4 hk4 ho4
        (conv => whnf); repeat first | (refine drw (by decide +kernel) ?_; conv => whnf) | (refine fun (_ : Nat) (_ : _ ≤ _) (_ : _ = none) => ?_; conv => whnf)
        exact ⟨_, ho4.agg hul, rfl⟩
  · rw [if_neg hr]
    (conv => whnf); repeat first | (refine drw (by decide +kernel) ?_; conv => whnf) | (refine fun (_ : Nat) (_ : _ ≤ _) (_ : _ = none) => ?_; conv => whnf)
    refine ⟨rfl, HO.put (h2 := hZ) ho2 rfl (.inr hB2) ?_⟩
    intro H3 hk3 ho3
    (conv => whnf); repeat first | (refine drw (by decide +kernel) ?_; conv => whnf) | (refine fun (_ : Nat) (_ : _ ≤ _) (_ : _ = none) => ?_; conv => whnf)
    refine ⟨_, ho3.agg (by simp [hZ]), ?_⟩
    unfold useB; rw [if_neg hr]; rfl
end Go.Proofs.YtlkgjffffeohdaaGreat
