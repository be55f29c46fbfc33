/- Volumes that are not there; the statement VolNil's walk. -/
import Derived.Test.YtlkgjffffeohdaaGreatLawMount
set_option linter.all false
namespace Go.Proofs.YtlkgjffffeohdaaGreat
open Go Go.Eng Go.Proofs

abbrev nilP : Value := .pointer none
abbrev noH : HV := fun _ => none

theorem len_nil (w : World) : Calls Tryz.prog 85 #[nilP] w (RetP (iV 0) w) := by
  refine fn_pure (H0 := noH) (args := [nilP]) tabH Tryz.func85 rfl (by kernel_rfl)  (fun _ _ h => by cases h) ?_
  (conv => whnf); repeat first | (refine drw (by decide +kernel) ?_; conv => whnf) | (refine fun (_ : Nat) (_ : _ ≤ _) (_ : _ = none) => ?_; conv => whnf)
  all_goals rfl
theorem cnew_nil (w : World) : Calls Tryz.prog 189 #[nilP, iV 1] w (RetP (.tuple #[nilP, iV 2]) w) := by
  refine fn_pure (H0 := noH) (args := [nilP, iV 1]) tabH Tryz.func189 rfl (by kernel_rfl)  (fun _ _ h => by cases h) ?_
  (conv => whnf); repeat first | (refine drw (by decide +kernel) ?_; conv => whnf) | (refine fun (_ : Nat) (_ : _ ≤ _) (_ : _ = none) => ?_; conv => whnf)
  all_goals rfl
theorem popen_nil (w : World) : Calls Tryz.prog 104 #[nilP, iV 1] w (RetP (.tuple #[nilP, iV 2]) w) := by
  refine fn_pure (H0 := noH) (args := [nilP, iV 1]) tabH Tryz.func104 rfl (by kernel_rfl)  (fun _ _ h => by cases h) ?_
  ((conv => whnf); repeat first | (refine drw (by decide +kernel) ?_; conv => whnf) | (refine fun (_ : Nat) (_ : _ ≤ _) (_ : _ = none) => ?_; conv => whnf)); ((refine VCall.pure_ (by kernel_rfl) (fun w hs => cnew_nil w) ?_); (conv => whnf); repeat first | (refine drw (by decide +kernel) ?_; conv => whnf) | (refine fun (_ : Nat) (_ : _ ≤ _) (_ : _ = none) => ?_; conv => whnf))
  all_goals rfl
theorem vmount_nil (w : World) : Calls Tryz.prog 24 #[nilP] w (RetP (.tuple #[nilP, iV 2]) w) := by
  refine fn_pure (H0 := noH) (args := [nilP]) tabH Tryz.func24 rfl (by kernel_rfl)  (fun _ _ h => by cases h) ?_
  ((conv => whnf); repeat first | (refine drw (by decide +kernel) ?_; conv => whnf) | (refine fun (_ : Nat) (_ : _ ≤ _) (_ : _ = none) => ?_; conv => whnf)); ((refine VCall.pure_ (by kernel_rfl) (fun w hs => len_nil w) ?_); (conv => whnf); repeat first | (refine drw (by decide +kernel) ?_; conv => whnf) | (refine fun (_ : Nat) (_ : _ ≤ _) (_ : _ = none) => ?_; conv => whnf)); ((refine VCall.pure_ (by kernel_rfl) (fun w hs => popen_nil w) ?_); (conv => whnf); repeat first | (refine drw (by decide +kernel) ?_; conv => whnf) | (refine fun (_ : Nat) (_ : _ ≤ _) (_ : _ = none) => ?_; conv => whnf))
  all_goals rfl
theorem vplace_nil (n : Int) (w : World) : Calls Tryz.prog 128 #[nilP, iV n] w (RetP (.tuple #[iV 0, iV 0, iV 2]) w) := by
  refine fn_pure (H0 := noH) (args := [nilP, iV n]) tabH Tryz.func128 rfl (by kernel_rfl)  (fun _ _ h => by cases h) ?_
  (conv => whnf); repeat first | (refine drw (by decide +kernel) ?_; conv => whnf) | (refine fun (_ : Nat) (_ : _ ≤ _) (_ : _ = none) => ?_; conv => whnf)
  rfl
theorem vheadb_nil (n : Int) (w : World) : Calls Tryz.prog 132 #[nilP, iV n] w (RetP (.tuple #[iV 0, iV 2]) w) := by
  refine fn_pure (H0 := noH) (args := [nilP, iV n]) tabH Tryz.func132 rfl (by kernel_rfl)  (fun _ _ h => by cases h) ?_
  (conv => whnf); repeat first | (refine drw (by decide +kernel) ?_; conv => whnf) | (refine fun (_ : Nat) (_ : _ ≤ _) (_ : _ = none) => ?_; conv => whnf)
  rfl
theorem vdata_nil (n : Int) (w : World) : Calls Tryz.prog 135 #[nilP, iV n] w (RetP (iV 2) w) := by
  refine fn_pure (H0 := noH) (args := [nilP, iV n]) tabH Tryz.func135 rfl (by kernel_rfl)  (fun _ _ h => by cases h) ?_
  (conv => whnf); repeat first | (refine drw (by decide +kernel) ?_; conv => whnf) | (refine fun (_ : Nat) (_ : _ ≤ _) (_ : _ = none) => ?_; conv => whnf)
  rfl
theorem vinode_nil (n : Int) (w : World) : Calls Tryz.prog 47 #[nilP, iV n] w (RetP (nVE nZ 2) w) := by
  refine fn_pure (H0 := noH) (args := [nilP, iV n]) tabH Tryz.func47 rfl (by kernel_rfl)  (fun _ _ h => by cases h) ?_
  (conv => whnf); repeat first | (refine drw (by decide +kernel) ?_; conv => whnf) | (refine fun (_ : Nat) (_ : _ ≤ _) (_ : _ = none) => ?_; conv => whnf)
  intro r H1 hB1 hN1 hE1
  have ho1 : IO_ H1 r nZ.is := ⟨_, hE1.new⟩
  (conv => whnf); repeat first | (refine drw (by decide +kernel) ?_; conv => whnf) | (refine fun (_ : Nat) (_ : _ ≤ _) (_ : _ = none) => ?_; conv => whnf)
  (refine VCall.pure_ (by kernel_rfl) (fun w hs => vplace_nil n w) ?_); (conv => whnf); repeat first | (refine drw (by decide +kernel) ?_; conv => whnf) | (refine fun (_ : Nat) (_ : _ ≤ _) (_ : _ = none) => ?_; conv => whnf)
  refine ⟨rfl, IO_.store ho1 nZ.is 0 (Nat.le_of_ble_eq_true rfl) (.inr hB1) ?_⟩
  intro H3 hk3 ho3
  have ho3 : IO_ H3 r nZ.is := ho3
  (conv => whnf); repeat first | (refine drw (by decide +kernel) ?_; conv => whnf) | (refine fun (_ : Nat) (_ : _ ≤ _) (_ : _ = none) => ?_; conv => whnf)
  refine ⟨_, ho3.all rfl, ?_⟩
  (conv => whnf); repeat first | (refine drw (by decide +kernel) ?_; conv => whnf) | (refine fun (_ : Nat) (_ : _ ≤ _) (_ : _ = none) => ?_; conv => whnf)
  rfl
theorem vhead_nil (n : Int) (w : World) : Calls Tryz.prog 49 #[nilP, iV n] w (RetP (hVE hZ 2) w) := by
  refine fn_pure (H0 := noH) (args := [nilP, iV n]) tabH Tryz.func49 rfl (by kernel_rfl)  (fun _ _ h => by cases h) ?_
  (conv => whnf); repeat first | (refine drw (by decide +kernel) ?_; conv => whnf) | (refine fun (_ : Nat) (_ : _ ≤ _) (_ : _ = none) => ?_; conv => whnf)
  intro r H1 hB1 hN1 hE1
  have ho1 : HO H1 r hZ := ⟨_, hE1.new⟩
  (conv => whnf); repeat first | (refine drw (by decide +kernel) ?_; conv => whnf) | (refine fun (_ : Nat) (_ : _ ≤ _) (_ : _ = none) => ?_; conv => whnf)
  (refine VCall.pure_ (by kernel_rfl) (fun w hs => vheadb_nil n w) ?_); (conv => whnf); repeat first | (refine drw (by decide +kernel) ?_; conv => whnf) | (refine fun (_ : Nat) (_ : _ ≤ _) (_ : _ = none) => ?_; conv => whnf)
  refine ⟨by show (hL hZ).length = 25; rfl, HO.put ho1 (h2 := hZ) rfl (.inr hB1) ?_⟩
  intro H3 hk3 ho3
  (conv => whnf); repeat first | (refine drw (by decide +kernel) ?_; conv => whnf) | (refine fun (_ : Nat) (_ : _ ≤ _) (_ : _ = none) => ?_; conv => whnf)
  refine ⟨_, ho3.agg rfl, ?_⟩
  (conv => whnf); repeat first | (refine drw (by decide +kernel) ?_; conv => whnf) | (refine fun (_ : Nat) (_ : _ ≤ _) (_ : _ = none) => ?_; conv => whnf)
  rfl
theorem vsetinode_nil (n : Int) (w : World) : Calls Tryz.prog 48 #[nilP, iV n, nV nZ, nilS] w (RetP (.tuple #[iV 0, iV 2]) w) := by
  refine fn_pure (H0 := noH) (args := [nilP, iV n, nV nZ, nilS]) tabH Tryz.func48 rfl (by kernel_rfl)  (fun _ _ h => by cases h) ?_
  (conv => whnf); repeat first | (refine drw (by decide +kernel) ?_; conv => whnf) | (refine fun (_ : Nat) (_ : _ ≤ _) (_ : _ = none) => ?_; conv => whnf)
  intro r H1 hB1 hN1 hE1
  (conv => whnf); repeat first | (refine drw (by decide +kernel) ?_; conv => whnf) | (refine fun (_ : Nat) (_ : _ ≤ _) (_ : _ = none) => ?_; conv => whnf)
  (refine VCall.pure_ (by kernel_rfl) (fun w hs => vplace_nil n w) ?_); (conv => whnf); repeat first | (refine drw (by decide +kernel) ?_; conv => whnf) | (refine fun (_ : Nat) (_ : _ ≤ _) (_ : _ = none) => ?_; conv => whnf)
  rfl
theorem vsethead_nil (n : Int) (w : World) : Calls Tryz.prog 50 #[nilP, iV n, hV hZ, nilS] w (RetP (.tuple #[iV 0, iV 2]) w) := by
  refine fn_pure (H0 := noH) (args := [nilP, iV n, hV hZ, nilS]) tabH Tryz.func50 rfl (by kernel_rfl)  (fun _ _ h => by cases h) ?_
  (conv => whnf); repeat first | (refine drw (by decide +kernel) ?_; conv => whnf) | (refine fun (_ : Nat) (_ : _ ≤ _) (_ : _ = none) => ?_; conv => whnf)
  intro r H1 hB1 hN1 hE1
  (conv => whnf); repeat first | (refine drw (by decide +kernel) ?_; conv => whnf) | (refine fun (_ : Nat) (_ : _ ≤ _) (_ : _ = none) => ?_; conv => whnf)
  (refine VCall.pure_ (by kernel_rfl) (fun w hs => vheadb_nil n w) ?_); (conv => whnf); repeat first | (refine drw (by decide +kernel) ?_; conv => whnf) | (refine fun (_ : Nat) (_ : _ ≤ _) (_ : _ = none) => ?_; conv => whnf)
  rfl
theorem vdatag_nil (n : Int) (w : World) : Calls Tryz.prog 51 #[nilP, iV n] w (RetP (.tuple #[nilS, iV 2]) w) := by
  refine fn_pure (H0 := noH) (args := [nilP, iV n]) tabH Tryz.func51 rfl (by kernel_rfl)  (fun _ _ h => by cases h) ?_
  (conv => whnf); repeat first | (refine drw (by decide +kernel) ?_; conv => whnf) | (refine fun (_ : Nat) (_ : _ ≤ _) (_ : _ = none) => ?_; conv => whnf)
  (refine VCall.pure_ (by kernel_rfl) (fun w hs => vdata_nil n w) ?_); (conv => whnf); repeat first | (refine drw (by decide +kernel) ?_; conv => whnf) | (refine fun (_ : Nat) (_ : _ ≤ _) (_ : _ = none) => ?_; conv => whnf)
  rfl
theorem vsetdata_nil (n : Int) (s : Value) (w : World) : Calls Tryz.prog 52 #[nilP, iV n, iV 0, s, nilS] w (RetP (.tuple #[iV 0, iV 2]) w) := by
  refine fn_pure (H0 := noH) (args := [nilP, iV n, iV 0, s, nilS]) tabH Tryz.func52 rfl (by kernel_rfl)  (fun _ _ h => by cases h) ?_
  (conv => whnf); repeat first | (refine drw (by decide +kernel) ?_; conv => whnf) | (refine fun (_ : Nat) (_ : _ ≤ _) (_ : _ = none) => ?_; conv => whnf)
  (refine VCall.pure_ (by kernel_rfl) (fun w hs => vdata_nil n w) ?_); (conv => whnf); repeat first | (refine drw (by decide +kernel) ?_; conv => whnf) | (refine fun (_ : Nat) (_ : _ ≤ _) (_ : _ = none) => ?_; conv => whnf)
  rfl
theorem vnewid_nil (w : World) : Calls Tryz.prog 53 #[nilP] w (RetP (.tuple #[iV 0, iV 2]) w) := by
  refine fn_pure (H0 := noH) (args := [nilP]) tabH Tryz.func53 rfl (by kernel_rfl)  (fun _ _ h => by cases h) ?_
  (conv => whnf); repeat first | (refine drw (by decide +kernel) ?_; conv => whnf) | (refine fun (_ : Nat) (_ : _ ≤ _) (_ : _ = none) => ?_; conv => whnf)
  all_goals rfl
theorem vgeo_nil (w : World) : Calls Tryz.prog 27 #[nilP] w (RetP (gV gZ) w) := by
  refine fn_pure (H0 := noH) (args := [nilP]) tabH Tryz.func27 rfl (by kernel_rfl)  (fun _ _ h => by cases h) ?_
  (conv => whnf); repeat first | (refine drw (by decide +kernel) ?_; conv => whnf) | (refine fun (_ : Nat) (_ : _ ≤ _) (_ : _ = none) => ?_; conv => whnf)
  all_goals rfl
theorem vgen_nil (w : World) : Calls Tryz.prog 26 #[nilP] w (RetP (iV 0) w) := by
  refine fn_pure (H0 := noH) (args := [nilP]) tabH Tryz.func26 rfl (by kernel_rfl)  (fun _ _ h => by cases h) ?_
  (conv => whnf); repeat first | (refine drw (by decide +kernel) ?_; conv => whnf) | (refine fun (_ : Nat) (_ : _ ≤ _) (_ : _ = none) => ?_; conv => whnf)
  all_goals rfl
theorem vstore_nil (w : World) : Calls Tryz.prog 54 #[nilP] w (RetP nilP w) := by
  refine fn_pure (H0 := noH) (args := [nilP]) tabH Tryz.func54 rfl (by kernel_rfl)  (fun _ _ h => by cases h) ?_
  (conv => whnf); repeat first | (refine drw (by decide +kernel) ?_; conv => whnf) | (refine fun (_ : Nat) (_ : _ ≤ _) (_ : _ = none) => ?_; conv => whnf)
  all_goals rfl
theorem vwork_nil (w : World) : Calls Tryz.prog 55 #[nilP] w (RetP nilP w) := by
  refine fn_pure (H0 := noH) (args := [nilP]) tabH Tryz.func55 rfl (by kernel_rfl)  (fun _ _ h => by cases h) ?_
  (conv => whnf); repeat first | (refine drw (by decide +kernel) ?_; conv => whnf) | (refine fun (_ : Nat) (_ : _ ≤ _) (_ : _ = none) => ?_; conv => whnf)
  all_goals rfl
theorem vmay_nil (g : G) (n : Int) (w : World) : Calls Tryz.prog 136 #[nilP, gV g, iV n] w (RetP (iV 2) w) := by
  refine fn_pure (H0 := noH) (args := [nilP, gV g, iV n]) tabH Tryz.func136 rfl (by kernel_rfl)  (fun _ _ h => by cases h) ?_
  conv => whnf
  intro r hB hN
  (conv => whnf); repeat first | (refine drw (by decide +kernel) ?_; conv => whnf) | (refine fun (_ : Nat) (_ : _ ≤ _) (_ : _ = none) => ?_; conv => whnf)
  rfl
theorem vprepare_nil (g : G) (w : World) : Calls Tryz.prog 56 #[nilP, gV g] w (RetP (iV 2) w) := by
  refine fn_pure (H0 := noH) (args := [nilP, gV g]) tabH Tryz.func56 rfl (by kernel_rfl)  (fun _ _ h => by cases h) ?_
  conv => whnf
  intro r hB hN
  conv => whnf
  intro r2 hB2 hN2
  conv => whnf
  refine VDraw.held [0, 1] [0, 1] tabH mixH (by kernel_rfl) ⟨.inr ⟨0, _, _, rfl, rfl, rfl⟩, .inr ⟨1, _, _, rfl, rfl, rfl⟩, trivial⟩ ?_
  (conv => whnf); repeat (first | (refine fun (_ : Nat) (_ : _ ≤ _) (_ : _ = none) => ?_; conv => whnf) | (refine drw (by decide +kernel) ?_; conv => whnf) | (refine And.intro ?_ ?_; (focus (first | ((repeat (first | exact trivial | ((conv => whnf); refine And.intro (by first | exact .inr ⟨0, _, _, rfl, rfl, rfl⟩ | exact .inr ⟨1, _, _, rfl, rfl, rfl⟩ | exact .inr ⟨2, _, _, rfl, rfl, rfl⟩ | exact .inr ⟨3, _, _, rfl, rfl, rfl⟩ | assumption) ?_))); done) | ((conv => whnf); first | exact ⟨0, 0, _, _, _, rfl, (Nat.zero_add _).symm, rfl, rfl⟩ | exact ⟨1, 0, _, _, _, rfl, (Nat.zero_add _).symm, rfl, rfl⟩ | exact ⟨2, 0, _, _, _, rfl, (Nat.zero_add _).symm, rfl, rfl⟩ | exact ⟨3, 0, _, _, _, rfl, (Nat.zero_add _).symm, rfl, rfl⟩ | exact ⟨0, _, 0, _, _, rfl, rfl, rfl, rfl⟩ | exact ⟨1, _, 0, _, _, rfl, rfl, rfl, rfl⟩ | exact ⟨2, _, 0, _, _, rfl, rfl, rfl, rfl⟩ | exact ⟨3, _, 0, _, _, rfl, rfl, rfl, rfl⟩))); conv => whnf))
  (refine VCall.pure_ (by kernel_rfl) (fun w hs => vgeo_nil w) ?_); (conv => whnf); repeat (first | (refine fun (_ : Nat) (_ : _ ≤ _) (_ : _ = none) => ?_; conv => whnf) | (refine drw (by decide +kernel) ?_; conv => whnf) | (refine And.intro ?_ ?_; (focus (first | ((repeat (first | exact trivial | ((conv => whnf); refine And.intro (by first | exact .inr ⟨0, _, _, rfl, rfl, rfl⟩ | exact .inr ⟨1, _, _, rfl, rfl, rfl⟩ | exact .inr ⟨2, _, _, rfl, rfl, rfl⟩ | exact .inr ⟨3, _, _, rfl, rfl, rfl⟩ | assumption) ?_))); done) | ((conv => whnf); first | exact ⟨0, 0, _, _, _, rfl, (Nat.zero_add _).symm, rfl, rfl⟩ | exact ⟨1, 0, _, _, _, rfl, (Nat.zero_add _).symm, rfl, rfl⟩ | exact ⟨2, 0, _, _, _, rfl, (Nat.zero_add _).symm, rfl, rfl⟩ | exact ⟨3, 0, _, _, _, rfl, (Nat.zero_add _).symm, rfl, rfl⟩ | exact ⟨0, _, 0, _, _, rfl, rfl, rfl, rfl⟩ | exact ⟨1, _, 0, _, _, rfl, rfl, rfl, rfl⟩ | exact ⟨2, _, 0, _, _, rfl, rfl, rfl, rfl⟩ | exact ⟨3, _, 0, _, _, rfl, rfl, rfl, rfl⟩))); conv => whnf))
  (refine VCall.pure_ (by kernel_rfl) (fun w hs => vmay_nil g gZ.gs w) ?_); (conv => whnf); repeat (first | (refine fun (_ : Nat) (_ : _ ≤ _) (_ : _ = none) => ?_; conv => whnf) | (refine drw (by decide +kernel) ?_; conv => whnf) | (refine And.intro ?_ ?_; (focus (first | ((repeat (first | exact trivial | ((conv => whnf); refine And.intro (by first | exact .inr ⟨0, _, _, rfl, rfl, rfl⟩ | exact .inr ⟨1, _, _, rfl, rfl, rfl⟩ | exact .inr ⟨2, _, _, rfl, rfl, rfl⟩ | exact .inr ⟨3, _, _, rfl, rfl, rfl⟩ | assumption) ?_))); done) | ((conv => whnf); first | exact ⟨0, 0, _, _, _, rfl, (Nat.zero_add _).symm, rfl, rfl⟩ | exact ⟨1, 0, _, _, _, rfl, (Nat.zero_add _).symm, rfl, rfl⟩ | exact ⟨2, 0, _, _, _, rfl, (Nat.zero_add _).symm, rfl, rfl⟩ | exact ⟨3, 0, _, _, _, rfl, (Nat.zero_add _).symm, rfl, rfl⟩ | exact ⟨0, _, 0, _, _, rfl, rfl, rfl, rfl⟩ | exact ⟨1, _, 0, _, _, rfl, rfl, rfl, rfl⟩ | exact ⟨2, _, 0, _, _, rfl, rfl, rfl, rfl⟩ | exact ⟨3, _, 0, _, _, rfl, rfl, rfl, rfl⟩))); conv => whnf))
  all_goals rfl

theorem vswitch_nil (g : G) (w : World) : Calls Tryz.prog 57 #[nilP, gV g] w (RetP (iV 2) w) := by
  refine fn_pure (H0 := noH) (args := [nilP, gV g]) tabH Tryz.func57 rfl (by kernel_rfl)  (fun _ _ h => by cases h) ?_
  conv => whnf
  intro r hB hN
  (conv => whnf); repeat first | (refine drw (by decide +kernel) ?_; conv => whnf) | (refine fun (_ : Nat) (_ : _ ≤ _) (_ : _ = none) => ?_; conv => whnf)
  (refine VCall.pure_ (by kernel_rfl) (fun w hs => vmay_nil g 1 w) ?_); (conv => whnf); repeat first | (refine drw (by decide +kernel) ?_; conv => whnf) | (refine fun (_ : Nat) (_ : _ ≤ _) (_ : _ = none) => ?_; conv => whnf)
  all_goals rfl

/-! ### known -/
def kG : G := ⟨16, 8, 2⟩
theorem kG_ok : kG.ok := by decide

theorem vgen_ok {H : HV} {F : Nat → Prop} {p dp : Nat} {v : Vs} (w : World) (hs : ∀ i o, H i = some o → w.heap[i]? = some o) (hv : VolAt H F p dp v) : Calls Tryz.prog 26 #[pV p] w (RetP (.int .i64 v.s.gen) w) := by
  obtain ⟨Fs, Fo, sp, wp, lb, lc, hi, hF⟩ := hv
  obtain ⟨c1, c4, c5, c6, c0⟩ := hi.c0
  refine fn_pure (args := [pV p]) tabH Tryz.func26 rfl (by kernel_rfl)  hs ?_
  (conv => whnf); repeat first | (refine drw (by decide +kernel) ?_; conv => whnf) | (refine fun (_ : Nat) (_ : _ ≤ _) (_ : _ = none) => ?_; conv => whnf)
  refine ⟨_, c0, ?_⟩
  (conv => whnf); repeat first | (refine drw (by decide +kernel) ?_; conv => whnf) | (refine fun (_ : Nat) (_ : _ ≤ _) (_ : _ = none) => ?_; conv => whnf)
  all_goals rfl

theorem known13_ok (w : World) : Calls Tryz.prog 14 #[] w (Ret noH (fun _ => False) (fun v H1 => v = bV true) w) := by
  have hsz : kG.size ≤ (34 : Nat) := by decide
  have hn : (Dk.new 34).n = 34 := rfl
  refine fn_ret (args := []) (H0 := noH) tabH Tryz.func14 rfl (by kernel_rfl)  (fun _ _ h => by cases h) ?_
  (conv => whnf); repeat first | (refine drw (by decide +kernel) ?_; conv => whnf) | (refine fun (_ : Nat) (_ : _ ≤ _) (_ : _ = none) => ?_; conv => whnf)
  (refine VCall.ret (by kernel_rfl) (fun w hs => dnew_ok 34 w hs) ?_ ?_)
  · rintro i ⟨⟩
  rintro v H1 hk1 hd1 ⟨hp1⟩
  rw [if_pos (by decide)] at hp1
  obtain ⟨p, F, rfl, hFn, hd⟩ := hp1
  have hd : DiskAt H1 F p (Dk.new 34) := hd
  have hB1 : ∀ i, F i → w.heap.size ≤ i := fun i hi => by
    obtain ⟨o, ho⟩ := hd.dom i hi
    rcases hd1 i o ho with ⟨o', ho'⟩ | h
    · cases ho'
    · exact h
  (conv => whnf); repeat first | (refine drw (by decide +kernel) ?_; conv => whnf) | (refine fun (_ : Nat) (_ : _ ≤ _) (_ : _ = none) => ?_; conv => whnf)
  (refine VCall.ret (by kernel_rfl) (fun w hs => vformat_ok (g := kG) w hs hd (fun b => by show 0 < _; decide)) ?_ ?_)
  · rintro i hi; exact ⟨hd.dom i hi, .inr (hB1 i hi)⟩
  rintro v H2 hk2 hd2 ⟨hp2⟩
  rw [if_pos kG_ok, if_pos (by rw [hn]; exact hsz)] at hp2
  obtain ⟨rfl, F2, hdk2, hg2⟩ := hp2
  have hB2 : ∀ i, F2 i → w.heap.size ≤ i := fun i hi => by
    rcases grow_new hg2 hdk2.dom hd2 i hi with h | h
    · exact hB1 i h
    · exact h
  (conv => whnf); repeat first | (refine drw (by decide +kernel) ?_; conv => whnf) | (refine fun (_ : Nat) (_ : _ ≤ _) (_ : _ = none) => ?_; conv => whnf)
  (refine VCall.ret (by kernel_rfl) (fun w hs => vmount_ok w hs hdk2) ?_ ?_)
  · rintro i hi; exact ⟨hdk2.dom i hi, .inr (hB2 i hi)⟩
  rintro v H3 hk3 hd3 ⟨hp3⟩
  obtain ⟨hme, hmv⟩ := mount_fmt (d := Dk.new 34) kG_ok hsz
  rw [if_pos hme, hmv] at hp3
  obtain ⟨q, F3, rfl, hv3, hg3⟩ := hp3
  have hB3 : ∀ i, F3 i → w.heap.size ≤ i := fun i hi => by
    rcases grow_new hg3 hv3.dom hd3 i hi with h | h
    · exact hB2 i h
    · exact h
  (conv => whnf); repeat first | (refine drw (by decide +kernel) ?_; conv => whnf) | (refine fun (_ : Nat) (_ : _ ≤ _) (_ : _ = none) => ?_; conv => whnf)
  (refine VCall.ret (by kernel_rfl) (fun w hs => vinode_ok 1 w hs hv3) ?_ ?_)
  · rintro i hi; exact ⟨hv3.dom i hi, .inr (hB3 i hi)⟩
  rintro v H4 hk4 hd4 ⟨rfl, F4, hv4, hg4⟩
  have hin := inode_fmt (d := Dk.new 34) (x := 2) (ws := []) kG_ok hsz (n := 1) (by decide)
  rw [show ((1 : Nat) : Int) = 1 from rfl, if_pos rfl] at hin
  rw [hin]
  have hB4 : ∀ i, F4 i → w.heap.size ≤ i := fun i hi => by
    rcases grow_new hg4 hv4.dom hd4 i hi with h | h
    · exact hB3 i h
    · exact h
  conv => whnf
  intro ri H5 hB5 hN5 hE5
  have hoi : IO_ H5 ri nZ.is := ⟨_, hE5.new⟩
  (conv => whnf); repeat first | (refine drw (by decide +kernel) ?_; conv => whnf) | (refine fun (_ : Nat) (_ : _ ≤ _) (_ : _ = none) => ?_; conv => whnf)
  refine ⟨rfl, IO_.store hoi rootN.is 0 (Nat.le_of_ble_eq_true rfl) (.inr hB5) ?_⟩
  intro H6 hk6 ho6
  have ho6 : IO_ H6 ri rootN.is := ho6
  have hv6 := hv4.mono (H' := H6) (fun j o hj ho => hk6 j o (fun e => by rw [e, hN5] at ho; cases ho) (hE5.old _ _ ho))
  (conv => whnf); repeat first | (refine drw (by decide +kernel) ?_; conv => whnf) | (refine fun (_ : Nat) (_ : _ ≤ _) (_ : _ = none) => ?_; conv => whnf)
  (refine VCall.ret (by kernel_rfl) (fun w hs => vnewid_ok w hs hv6 (by show (0 : Int) ≤ 2 ∧ (2 : Int) ≤ _; decide)) ?_ ?_)
  · rintro i hi; exact ⟨hv6.dom i hi, .inr (hB4 i hi)⟩
  rintro v H7 hk7 hd7 ⟨rfl, hv7⟩
  have ho7 : IO_ H7 ri rootN.is := ho6.mono (fun o ho => hk7 _ o ho (fun hf => by
    obtain ⟨o', ho'⟩ := hv4.dom _ hf
    rw [hN5] at ho'; cases ho'))
  (conv => whnf); repeat first | (refine drw (by decide +kernel) ?_; conv => whnf) | (refine fun (_ : Nat) (_ : _ ≤ _) (_ : _ = none) => ?_; conv => whnf)
  (refine VCall.pure_ (by kernel_rfl) (fun w hs => vgen_ok w hs hv7) ?_); (conv => whnf); repeat first | (refine drw (by decide +kernel) ?_; conv => whnf) | (refine fun (_ : Nat) (_ : _ ≤ _) (_ : _ = none) => ?_; conv => whnf)
  refine ⟨_, ndCell ho7 0 rfl, ?_⟩
  (conv => whnf); repeat first | (refine drw (by decide +kernel) ?_; conv => whnf) | (refine fun (_ : Nat) (_ : _ ≤ _) (_ : _ = none) => ?_; conv => whnf)
  refine ⟨_, ndCell ho7 3 rfl, ?_⟩
  (conv => whnf); repeat first | (refine drw (by decide +kernel) ?_; conv => whnf) | (refine fun (_ : Nat) (_ : _ ≤ _) (_ : _ = none) => ?_; conv => whnf)
  rfl

theorem ret_pure {f : Nat} {args : Array Value} {x : Value} {w : World} (h : Calls Tryz.prog f args w (Ret noH (fun _ => False) (fun v _ => v = x) w)) : Calls Tryz.prog f args w (RetP x w) := by
  refine h.mono ?_
  rintro e w' ⟨v, H1, rfl, hk, _, _, _, rfl⟩
  exact ⟨rfl, hk⟩

theorem known13_p (w : World) : Calls Tryz.prog 14 #[] w (RetP (bV true) w) := ret_pure (known13_ok w)

theorem volnil_ok (n : Int) (g : G) (w : World) : Calls Tryz.prog 6 #[iV n, gV g] w (RetP (bV true) w) := by
  refine fn_pure (args := [iV n, gV g]) (H0 := noH) tabH Tryz.func6 rfl (by kernel_rfl)  (fun _ _ h => by cases h) ?_
  conv => whnf
  intro rb hBb hNb
  (conv => whnf); repeat first | (refine drw (by decide +kernel) ?_; conv => whnf) | (refine fun (_ : Nat) (_ : _ ≤ _) (_ : _ = none) => ?_; conv => whnf)
  (refine VCall.pure_ (by kernel_rfl) (fun w hs => vmount_nil w) ?_); (conv => whnf); repeat first | (refine drw (by decide +kernel) ?_; conv => whnf) | (refine fun (_ : Nat) (_ : _ ≤ _) (_ : _ = none) => ?_; conv => whnf)
  (refine VCall.pure_ (by kernel_rfl) (fun w hs => vinode_nil n w) ?_); (conv => whnf); repeat first | (refine drw (by decide +kernel) ?_; conv => whnf) | (refine fun (_ : Nat) (_ : _ ≤ _) (_ : _ = none) => ?_; conv => whnf)
  intro r1 H1 hB1 hN1 hE1
  have ho1 : IO_ H1 r1 nZ.is := ⟨_, hE1.new⟩
  (conv => whnf); repeat first | (refine drw (by decide +kernel) ?_; conv => whnf) | (refine fun (_ : Nat) (_ : _ ≤ _) (_ : _ = none) => ?_; conv => whnf)
  refine ⟨rfl, IO_.store ho1 nZ.is 0 (Nat.le_of_ble_eq_true rfl) (.inr hB1) ?_⟩
  intro H2 hk2 ho2
  (conv => whnf); repeat first | (refine drw (by decide +kernel) ?_; conv => whnf) | (refine fun (_ : Nat) (_ : _ ≤ _) (_ : _ = none) => ?_; conv => whnf)
  (refine VCall.pure_ (by kernel_rfl) (fun w hs => vsetinode_nil n w) ?_); (conv => whnf); repeat first | (refine drw (by decide +kernel) ?_; conv => whnf) | (refine fun (_ : Nat) (_ : _ ≤ _) (_ : _ = none) => ?_; conv => whnf)
  (refine VCall.pure_ (by kernel_rfl) (fun w hs => vhead_nil n w) ?_); (conv => whnf); repeat first | (refine drw (by decide +kernel) ?_; conv => whnf) | (refine fun (_ : Nat) (_ : _ ≤ _) (_ : _ = none) => ?_; conv => whnf)
  intro r3 H3 hB3 hN3 hE3
  have ho3 : HO H3 r3 hZ := ⟨_, hE3.new⟩
  (conv => whnf); repeat first | (refine drw (by decide +kernel) ?_; conv => whnf) | (refine fun (_ : Nat) (_ : _ ≤ _) (_ : _ = none) => ?_; conv => whnf)
  refine ⟨by show (hL hZ).length = 25; rfl, HO.put ho3 (h2 := hZ) rfl (.inr hB3) ?_⟩
  intro H4 hk4 ho4
  (conv => whnf); repeat first | (refine drw (by decide +kernel) ?_; conv => whnf) | (refine fun (_ : Nat) (_ : _ ≤ _) (_ : _ = none) => ?_; conv => whnf)
  (refine VCall.pure_ (by kernel_rfl) (fun w hs => vsethead_nil n w) ?_); (conv => whnf); repeat first | (refine drw (by decide +kernel) ?_; conv => whnf) | (refine fun (_ : Nat) (_ : _ ≤ _) (_ : _ = none) => ?_; conv => whnf)
  (refine VCall.pure_ (by kernel_rfl) (fun w hs => vdatag_nil n w) ?_); (conv => whnf); repeat first | (refine drw (by decide +kernel) ?_; conv => whnf) | (refine fun (_ : Nat) (_ : _ ≤ _) (_ : _ = none) => ?_; conv => whnf)
  refine ⟨by decide, ?_⟩
  intro r5 H5 hB5 hN5 hE5
  (conv => whnf); repeat first | (refine drw (by decide +kernel) ?_; conv => whnf) | (refine fun (_ : Nat) (_ : _ ≤ _) (_ : _ = none) => ?_; conv => whnf)
  (refine VCall.pure_ (by kernel_rfl) (fun w hs => vsetdata_nil n _ w) ?_); (conv => whnf); repeat first | (refine drw (by decide +kernel) ?_; conv => whnf) | (refine fun (_ : Nat) (_ : _ ≤ _) (_ : _ = none) => ?_; conv => whnf)
  (refine VCall.pure_ (by kernel_rfl) (fun w hs => vnewid_nil w) ?_); (conv => whnf); repeat first | (refine drw (by decide +kernel) ?_; conv => whnf) | (refine fun (_ : Nat) (_ : _ ≤ _) (_ : _ = none) => ?_; conv => whnf)
  (refine VDraw.held [1] [9] tabH mixH (by kernel_rfl) ?_ ?_); (focus ((repeat (first | exact trivial | ((conv => whnf); refine And.intro (by first | exact .inr ⟨0, _, _, rfl, rfl, rfl⟩ | exact .inr ⟨1, _, _, rfl, rfl, rfl⟩ | exact .inr ⟨2, _, _, rfl, rfl, rfl⟩ | exact .inr ⟨3, _, _, rfl, rfl, rfl⟩ | assumption) ?_))); done)); (conv => whnf); repeat (first | (refine fun (_ : Nat) (_ : _ ≤ _) (_ : _ = none) => ?_; conv => whnf) | (refine drw (by decide +kernel) ?_; conv => whnf) | (refine And.intro ?_ ?_; (focus (first | ((repeat (first | exact trivial | ((conv => whnf); refine And.intro (by first | exact .inr ⟨0, _, _, rfl, rfl, rfl⟩ | exact .inr ⟨1, _, _, rfl, rfl, rfl⟩ | exact .inr ⟨2, _, _, rfl, rfl, rfl⟩ | exact .inr ⟨3, _, _, rfl, rfl, rfl⟩ | assumption) ?_))); done) | ((conv => whnf); first | exact ⟨0, 0, _, _, _, rfl, (Nat.zero_add _).symm, rfl, rfl⟩ | exact ⟨1, 0, _, _, _, rfl, (Nat.zero_add _).symm, rfl, rfl⟩ | exact ⟨2, 0, _, _, _, rfl, (Nat.zero_add _).symm, rfl, rfl⟩ | exact ⟨3, 0, _, _, _, rfl, (Nat.zero_add _).symm, rfl, rfl⟩ | exact ⟨0, _, 0, _, _, rfl, rfl, rfl, rfl⟩ | exact ⟨1, _, 0, _, _, rfl, rfl, rfl, rfl⟩ | exact ⟨2, _, 0, _, _, rfl, rfl, rfl, rfl⟩ | exact ⟨3, _, 0, _, _, rfl, rfl, rfl, rfl⟩))); conv => whnf))
  (refine VCall.pure_ (by kernel_rfl) (fun w hs => vgeo_nil w) ?_); (conv => whnf); repeat (first | (refine fun (_ : Nat) (_ : _ ≤ _) (_ : _ = none) => ?_; conv => whnf) | (refine drw (by decide +kernel) ?_; conv => whnf) | (refine And.intro ?_ ?_; (focus (first | ((repeat (first | exact trivial | ((conv => whnf); refine And.intro (by first | exact .inr ⟨0, _, _, rfl, rfl, rfl⟩ | exact .inr ⟨1, _, _, rfl, rfl, rfl⟩ | exact .inr ⟨2, _, _, rfl, rfl, rfl⟩ | exact .inr ⟨3, _, _, rfl, rfl, rfl⟩ | assumption) ?_))); done) | ((conv => whnf); first | exact ⟨0, 0, _, _, _, rfl, (Nat.zero_add _).symm, rfl, rfl⟩ | exact ⟨1, 0, _, _, _, rfl, (Nat.zero_add _).symm, rfl, rfl⟩ | exact ⟨2, 0, _, _, _, rfl, (Nat.zero_add _).symm, rfl, rfl⟩ | exact ⟨3, 0, _, _, _, rfl, (Nat.zero_add _).symm, rfl, rfl⟩ | exact ⟨0, _, 0, _, _, rfl, rfl, rfl, rfl⟩ | exact ⟨1, _, 0, _, _, rfl, rfl, rfl, rfl⟩ | exact ⟨2, _, 0, _, _, rfl, rfl, rfl, rfl⟩ | exact ⟨3, _, 0, _, _, rfl, rfl, rfl, rfl⟩))); conv => whnf))
  refine ⟨eq_guard (by kernel_rfl), _, geo_eq gZ gZ, ?_⟩
  (conv => whnf); repeat (first | (refine fun (_ : Nat) (_ : _ ≤ _) (_ : _ = none) => ?_; conv => whnf) | (refine drw (by decide +kernel) ?_; conv => whnf) | (refine And.intro ?_ ?_; (focus (first | ((repeat (first | exact trivial | ((conv => whnf); refine And.intro (by first | exact .inr ⟨0, _, _, rfl, rfl, rfl⟩ | exact .inr ⟨1, _, _, rfl, rfl, rfl⟩ | exact .inr ⟨2, _, _, rfl, rfl, rfl⟩ | exact .inr ⟨3, _, _, rfl, rfl, rfl⟩ | assumption) ?_))); done) | ((conv => whnf); first | exact ⟨0, 0, _, _, _, rfl, (Nat.zero_add _).symm, rfl, rfl⟩ | exact ⟨1, 0, _, _, _, rfl, (Nat.zero_add _).symm, rfl, rfl⟩ | exact ⟨2, 0, _, _, _, rfl, (Nat.zero_add _).symm, rfl, rfl⟩ | exact ⟨3, 0, _, _, _, rfl, (Nat.zero_add _).symm, rfl, rfl⟩ | exact ⟨0, _, 0, _, _, rfl, rfl, rfl, rfl⟩ | exact ⟨1, _, 0, _, _, rfl, rfl, rfl, rfl⟩ | exact ⟨2, _, 0, _, _, rfl, rfl, rfl, rfl⟩ | exact ⟨3, _, 0, _, _, rfl, rfl, rfl, rfl⟩))); conv => whnf))
  (refine VCall.pure_ (by kernel_rfl) (fun w hs => vgen_nil w) ?_); (conv => whnf); repeat (first | (refine fun (_ : Nat) (_ : _ ≤ _) (_ : _ = none) => ?_; conv => whnf) | (refine drw (by decide +kernel) ?_; conv => whnf) | (refine And.intro ?_ ?_; (focus (first | ((repeat (first | exact trivial | ((conv => whnf); refine And.intro (by first | exact .inr ⟨0, _, _, rfl, rfl, rfl⟩ | exact .inr ⟨1, _, _, rfl, rfl, rfl⟩ | exact .inr ⟨2, _, _, rfl, rfl, rfl⟩ | exact .inr ⟨3, _, _, rfl, rfl, rfl⟩ | assumption) ?_))); done) | ((conv => whnf); first | exact ⟨0, 0, _, _, _, rfl, (Nat.zero_add _).symm, rfl, rfl⟩ | exact ⟨1, 0, _, _, _, rfl, (Nat.zero_add _).symm, rfl, rfl⟩ | exact ⟨2, 0, _, _, _, rfl, (Nat.zero_add _).symm, rfl, rfl⟩ | exact ⟨3, 0, _, _, _, rfl, (Nat.zero_add _).symm, rfl, rfl⟩ | exact ⟨0, _, 0, _, _, rfl, rfl, rfl, rfl⟩ | exact ⟨1, _, 0, _, _, rfl, rfl, rfl, rfl⟩ | exact ⟨2, _, 0, _, _, rfl, rfl, rfl, rfl⟩ | exact ⟨3, _, 0, _, _, rfl, rfl, rfl, rfl⟩))); conv => whnf))
  (refine VCall.pure_ (by kernel_rfl) (fun w hs => vstore_nil w) ?_); (conv => whnf); repeat (first | (refine fun (_ : Nat) (_ : _ ≤ _) (_ : _ = none) => ?_; conv => whnf) | (refine drw (by decide +kernel) ?_; conv => whnf) | (refine And.intro ?_ ?_; (focus (first | ((repeat (first | exact trivial | ((conv => whnf); refine And.intro (by first | exact .inr ⟨0, _, _, rfl, rfl, rfl⟩ | exact .inr ⟨1, _, _, rfl, rfl, rfl⟩ | exact .inr ⟨2, _, _, rfl, rfl, rfl⟩ | exact .inr ⟨3, _, _, rfl, rfl, rfl⟩ | assumption) ?_))); done) | ((conv => whnf); first | exact ⟨0, 0, _, _, _, rfl, (Nat.zero_add _).symm, rfl, rfl⟩ | exact ⟨1, 0, _, _, _, rfl, (Nat.zero_add _).symm, rfl, rfl⟩ | exact ⟨2, 0, _, _, _, rfl, (Nat.zero_add _).symm, rfl, rfl⟩ | exact ⟨3, 0, _, _, _, rfl, (Nat.zero_add _).symm, rfl, rfl⟩ | exact ⟨0, _, 0, _, _, rfl, rfl, rfl, rfl⟩ | exact ⟨1, _, 0, _, _, rfl, rfl, rfl, rfl⟩ | exact ⟨2, _, 0, _, _, rfl, rfl, rfl, rfl⟩ | exact ⟨3, _, 0, _, _, rfl, rfl, rfl, rfl⟩))); conv => whnf))
  (refine VCall.pure_ (by kernel_rfl) (fun w hs => vwork_nil w) ?_); (conv => whnf); repeat (first | (refine fun (_ : Nat) (_ : _ ≤ _) (_ : _ = none) => ?_; conv => whnf) | (refine drw (by decide +kernel) ?_; conv => whnf) | (refine And.intro ?_ ?_; (focus (first | ((repeat (first | exact trivial | ((conv => whnf); refine And.intro (by first | exact .inr ⟨0, _, _, rfl, rfl, rfl⟩ | exact .inr ⟨1, _, _, rfl, rfl, rfl⟩ | exact .inr ⟨2, _, _, rfl, rfl, rfl⟩ | exact .inr ⟨3, _, _, rfl, rfl, rfl⟩ | assumption) ?_))); done) | ((conv => whnf); first | exact ⟨0, 0, _, _, _, rfl, (Nat.zero_add _).symm, rfl, rfl⟩ | exact ⟨1, 0, _, _, _, rfl, (Nat.zero_add _).symm, rfl, rfl⟩ | exact ⟨2, 0, _, _, _, rfl, (Nat.zero_add _).symm, rfl, rfl⟩ | exact ⟨3, 0, _, _, _, rfl, (Nat.zero_add _).symm, rfl, rfl⟩ | exact ⟨0, _, 0, _, _, rfl, rfl, rfl, rfl⟩ | exact ⟨1, _, 0, _, _, rfl, rfl, rfl, rfl⟩ | exact ⟨2, _, 0, _, _, rfl, rfl, rfl, rfl⟩ | exact ⟨3, _, 0, _, _, rfl, rfl, rfl, rfl⟩))); conv => whnf))
  (refine VCall.pure_ (by kernel_rfl) (fun w hs => vprepare_nil g w) ?_); (conv => whnf); repeat (first | (refine fun (_ : Nat) (_ : _ ≤ _) (_ : _ = none) => ?_; conv => whnf) | (refine drw (by decide +kernel) ?_; conv => whnf) | (refine And.intro ?_ ?_; (focus (first | ((repeat (first | exact trivial | ((conv => whnf); refine And.intro (by first | exact .inr ⟨0, _, _, rfl, rfl, rfl⟩ | exact .inr ⟨1, _, _, rfl, rfl, rfl⟩ | exact .inr ⟨2, _, _, rfl, rfl, rfl⟩ | exact .inr ⟨3, _, _, rfl, rfl, rfl⟩ | assumption) ?_))); done) | ((conv => whnf); first | exact ⟨0, 0, _, _, _, rfl, (Nat.zero_add _).symm, rfl, rfl⟩ | exact ⟨1, 0, _, _, _, rfl, (Nat.zero_add _).symm, rfl, rfl⟩ | exact ⟨2, 0, _, _, _, rfl, (Nat.zero_add _).symm, rfl, rfl⟩ | exact ⟨3, 0, _, _, _, rfl, (Nat.zero_add _).symm, rfl, rfl⟩ | exact ⟨0, _, 0, _, _, rfl, rfl, rfl, rfl⟩ | exact ⟨1, _, 0, _, _, rfl, rfl, rfl, rfl⟩ | exact ⟨2, _, 0, _, _, rfl, rfl, rfl, rfl⟩ | exact ⟨3, _, 0, _, _, rfl, rfl, rfl, rfl⟩))); conv => whnf))
  (refine VCall.pure_ (by kernel_rfl) (fun w hs => vswitch_nil g w) ?_); (conv => whnf); repeat (first | (refine fun (_ : Nat) (_ : _ ≤ _) (_ : _ = none) => ?_; conv => whnf) | (refine drw (by decide +kernel) ?_; conv => whnf) | (refine And.intro ?_ ?_; (focus (first | ((repeat (first | exact trivial | ((conv => whnf); refine And.intro (by first | exact .inr ⟨0, _, _, rfl, rfl, rfl⟩ | exact .inr ⟨1, _, _, rfl, rfl, rfl⟩ | exact .inr ⟨2, _, _, rfl, rfl, rfl⟩ | exact .inr ⟨3, _, _, rfl, rfl, rfl⟩ | assumption) ?_))); done) | ((conv => whnf); first | exact ⟨0, 0, _, _, _, rfl, (Nat.zero_add _).symm, rfl, rfl⟩ | exact ⟨1, 0, _, _, _, rfl, (Nat.zero_add _).symm, rfl, rfl⟩ | exact ⟨2, 0, _, _, _, rfl, (Nat.zero_add _).symm, rfl, rfl⟩ | exact ⟨3, 0, _, _, _, rfl, (Nat.zero_add _).symm, rfl, rfl⟩ | exact ⟨0, _, 0, _, _, rfl, rfl, rfl, rfl⟩ | exact ⟨1, _, 0, _, _, rfl, rfl, rfl, rfl⟩ | exact ⟨2, _, 0, _, _, rfl, rfl, rfl, rfl⟩ | exact ⟨3, _, 0, _, _, rfl, rfl, rfl, rfl⟩))); conv => whnf))
  (refine VCall.pure_ (by kernel_rfl) (fun w hs => known13_p w) ?_); (conv => whnf); repeat (first | (refine fun (_ : Nat) (_ : _ ≤ _) (_ : _ = none) => ?_; conv => whnf) | (refine drw (by decide +kernel) ?_; conv => whnf) | (refine And.intro ?_ ?_; (focus (first | ((repeat (first | exact trivial | ((conv => whnf); refine And.intro (by first | exact .inr ⟨0, _, _, rfl, rfl, rfl⟩ | exact .inr ⟨1, _, _, rfl, rfl, rfl⟩ | exact .inr ⟨2, _, _, rfl, rfl, rfl⟩ | exact .inr ⟨3, _, _, rfl, rfl, rfl⟩ | assumption) ?_))); done) | ((conv => whnf); first | exact ⟨0, 0, _, _, _, rfl, (Nat.zero_add _).symm, rfl, rfl⟩ | exact ⟨1, 0, _, _, _, rfl, (Nat.zero_add _).symm, rfl, rfl⟩ | exact ⟨2, 0, _, _, _, rfl, (Nat.zero_add _).symm, rfl, rfl⟩ | exact ⟨3, 0, _, _, _, rfl, (Nat.zero_add _).symm, rfl, rfl⟩ | exact ⟨0, _, 0, _, _, rfl, rfl, rfl, rfl⟩ | exact ⟨1, _, 0, _, _, rfl, rfl, rfl, rfl⟩ | exact ⟨2, _, 0, _, _, rfl, rfl, rfl, rfl⟩ | exact ⟨3, _, 0, _, _, rfl, rfl, rfl, rfl⟩))); conv => whnf))
  all_goals rfl
end Go.Proofs.YtlkgjffffeohdaaGreat
