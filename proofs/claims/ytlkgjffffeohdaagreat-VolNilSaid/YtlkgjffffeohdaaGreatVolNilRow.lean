/- The statement VolNil: whatever the input, the law returns true, and its arguments read as they did. No condition. -/
import Derived.Test.YtlkgjffffeohdaaGreatVolNil
import Derived.Test.YtlkgjffffeohdaaGreatRows
import Derived.WalkKit
import Derived.ProofKit
import Derived.OpenShut
import Derived.Lib.SmallJoins
import Derived.Test.YtlkgjffffeohdaaGreatFacts
set_option linter.all false
namespace Go.Proofs.YtlkgjffffeohdaaGreat
open Go Go.Eng Go.Proofs
open Go.ChangeShapes Go.WideShapes Go.ChangeAt Go.RowKit

theorem own : ownKnob Tryz.prog.godebug = none := by kernel_rfl

theorem kept_of_kp {W W' : World} (h : Kp (fun _ => False) W W') : W.keptBut W' (fun _ => False) := by
  refine ⟨h.os, h.output, fun i hi => ?_⟩
  rw [h.old i hi (fun h => h)]
  have hs : W.heap[i]? = some W.heap[i] := Array.getElem?_eq_getElem hi
  rw [hs]
  cases W.heap[i] <;> simp

theorem below_of_kp {W W' : World} (h : Kp (fun _ => False) W W') : Below W.heap.size W W' := by
  exact ⟨h.os, h.tape, h.output, h.size, fun k hk => h.old k hk (fun h => h)⟩

theorem laidH : laidOutB Tryz.prog = true := by kernel_rfl

set_option maxRecDepth 100000 in
theorem volNil_lifted (os : Os) (started : os.Started) (H : Type) (enc : TypeId × Value → H) :
    ReturnsInHanded {} Tryz.checked os 6 .any (Rows.volNilSpec.pre6 enc Tryz.prog Tryz.f6 Rows.volNilRow.domain false) (Rows.volNilSpec.post enc Tryz.prog Tryz.f6 false true false false) := by
  refine returnsInHanded_of_change (C := Tryz.checked) own started (by kernel_rfl) Tryz.func6
    (ChangeSpec.witness6 (enc := enc) (C := Tryz.checked) false ⟨#[], #[.int .i64 0, gV gZ], []⟩ 8 (by kernel_rfl) (by kernel_rfl) (by kernel_rfl) (by kernel_rfl)) ?_
  intro W base args ds gs before hval0 hW hcnd _
  have hval : ∀ (j : Nat) t v, Tryz.f6.params[j]? = some t → args[j]? = some v → Value.okWide Tryz.prog W .any base t v := hval0
  have hW' := hW
  obtain ⟨p, q, hA0, hV, rfl, hfz, hnd⟩ := hW
  have hA : DataW.TrodAll enc Tryz.prog W 0 (fun _ => true) true Tryz.f6.params.toList args.toList ds p := hA0
  rw [Tryz.params6] at hA hval
  obtain ⟨v0, vs0, d0, ds0, p0, q0, hargs, rfl, rfl, h0, r0⟩ := trodAll_cons hA
  obtain ⟨v1, vs1, d1, ds1, p1, q1, rfl, rfl, rfl, h1, r1⟩ := trodAll_cons r0
  obtain ⟨rfl, rfl, rfl⟩ := trodAll_nil r1
  obtain rfl : args = #[v0, v1] := by cases args; simp_all
  obtain ⟨rfl, rfl⟩ := trodVars_none hV
  obtain ⟨a0, rfl, rfl, rfl, w0⟩ := open_int Tryz.underlying3 (hval 0 3 v0 rfl rfl) h0
  obtain ⟨c0, c1, c2, y0, y1, y2, m, rfl, rfl, rfl, hy0, hy1, hy2⟩ := Go.Joins.open_agg3 Tryz.underlying23 (by kernel_rfl) (by kernel_rfl) (hval 1 23 v1 rfl rfl) h1
  obtain ⟨g0, e0, rfl, u0⟩ := DataW.trod_int Tryz.underlying3 hy0
  obtain ⟨g1, e1, rfl, u1⟩ := DataW.trod_int Tryz.underlying3 hy1
  obtain ⟨g2, e2, rfl, u2⟩ := DataW.trod_int Tryz.underlying3 hy2
  simp only [List.cons.injEq, and_true] at e0 e1 e2
  subst e0 e1 e2
  clear hA0 hval0
  simp only [List.append_nil] at hW'
  refine (volnil_ok a0 ⟨g0, g1, g2⟩ W).mono fun e W' ⟨he, hg⟩ => ?_
  subst he
  have hb : Below W.heap.size W W' := below_of_kp hg
  refine ⟨_, rfl, ⟨_, _, _, [], [], [], hW', trodAll_cons_mk (shut_bool Tryz.underlying4 _) trodAll_mk0, ?_, rfl, World.keptBut_mono (fun _ h => h.elim) (kept_of_kp hg), fun h => (by cases h)⟩⟩
  exact trodAll_cons_mk (Below.trod laidH (by kernel_rfl) (by decide +kernel) h0 hb (fun x hx => by cases hx)) (trodAll_cons_mk (Below.trod laidH (by kernel_rfl) (by decide +kernel) h1 hb (fun x hx => by cases hx)) trodAll_mk0)

theorem volNil_f0 : Tryz.pinned.checked.prog.funcNamed Rows.volNilRow.func = some 6 := by kernel_rfl
theorem volNil_f1 : Rows.volNilRow.wf (OpenSpec.ofChange Rows.volNilSpec) = true := by kernel_rfl
theorem volNil_f4 : (Tryz.f6.params.all (Tryz.pinned.checked.prog.readableRec ·)) = true := by kernel_rfl
theorem volNil_f5 : namedTie Tryz.pinned.checked.prog Rows.volNilRow.named Rows.volNilSpec.vars = true := by kernel_rfl
theorem volNil_f8 : (Rows.volNilRow.inPlace == Tryz.pinned.checked.prog.inPlace 6) = true := by kernel_rfl
theorem volNil_f9 : (Rows.volNilRow.unfollowed == Tryz.pinned.checked.prog.unfollowed 6) = true := by kernel_rfl
theorem volNil_f10 : (Rows.volNilRow.recurses == Tryz.pinned.checked.prog.recurses 6) = true := by kernel_rfl
theorem volNil_f11 : (Rows.volNilRow.named == Tryz.pinned.checked.prog.varsNamed 6) = true := by kernel_rfl
theorem volNil_f12 : (Rows.volNilRow.maps == (Tryz.f6.params.toList ++ Rows.volNilSpec.plain.varTypes Tryz.pinned.checked.prog).any (Tryz.pinned.checked.prog.mapsRec ·)) = true := by kernel_rfl
theorem volNil_f12b : (Rows.volNilRow.ifaces == (Tryz.f6.params.toList ++ Rows.volNilSpec.plain.varTypes Tryz.pinned.checked.prog).any (Tryz.pinned.checked.prog.ifacesRec ·)) = true := by kernel_rfl
theorem volNil_f12c : (Rows.volNilRow.mapsOut == Tryz.pinned.checked.prog.mapsAmong Tryz.f6.resultTypes.toList) = true := by kernel_rfl
theorem volNil_f20 : (Rows.volNilRow.loops == (Tryz.f6.params.toList ++ Rows.volNilSpec.plain.varTypes Tryz.pinned.checked.prog).any (Tryz.pinned.checked.prog.loopsFrom ·)) = true := by kernel_rfl
theorem volNil_f20b : (Rows.volNilRow.wideKeys == (Tryz.f6.params.toList ++ Rows.volNilSpec.plain.varTypes Tryz.pinned.checked.prog ++ Tryz.f6.resultTypes.toList).any (Tryz.pinned.checked.prog.wideKeysFrom ·)) = true := by kernel_rfl
theorem volNil_f20c : Rows.volNilSpec.vars.all (Tryz.pinned.checked.prog.varReadable ·) = true := by kernel_rfl
theorem volNil_f20d : (Tryz.f6.resultTypes.all (fun t => Tryz.pinned.checked.prog.readableRec t && decide (t < Tryz.pinned.checked.prog.types.size))) = true := by kernel_rfl
theorem volNil_f20e : (Rows.volNilRow.ifacesOut == Tryz.f6.resultTypes.toList.any (Tryz.pinned.checked.prog.ifacesRec ·)) = true := by kernel_rfl
theorem volNil_f20f : (Rows.volNilRow.loopsOut == Tryz.f6.resultTypes.toList.any (Tryz.pinned.checked.prog.loopsFrom ·)) = true := by kernel_rfl
theorem volNil_f18 : (Rows.volNilRow.veiled == (Tryz.f6.params.toList ++ Rows.volNilSpec.plain.varTypes Tryz.pinned.checked.prog ++ Tryz.f6.resultTypes.toList).any (Tryz.pinned.checked.prog.veiledRec ·)) = true := by kernel_rfl
theorem volNil_f19 : Rows.volNilRow.veiledFits Tryz.pinned.checked.prog Tryz.f6.params.toList (Tryz.f6.params.toList ++ Rows.volNilSpec.plain.varTypes Tryz.pinned.checked.prog ++ Tryz.f6.resultTypes.toList) = true := by kernel_rfl
theorem volNil_f21 : Tryz.f6.isInstance Tryz.pinned.checked.prog Rows.volNilRow.origin Rows.volNilRow.targs := of_decide_eq_true (by kernel_rfl)
theorem volNil_f22 : Tryz.f6.isWrapper Tryz.pinned.checked.prog Rows.volNilRow.wrapper Rows.volNilRow.mainSum := by unfold Func.isWrapper; rw [if_neg (by decide +kernel)]; exact ⟨rfl, rfl⟩

theorem volNil_closed : joinedFacts Tryz.pinned.checked.prog 6 Tryz.f6 Rows.volNilSpec Rows.volNilRow = true := by
  unfold joinedFacts
  refine and_t (and_t (and_t (and_t (and_t (and_t (and_t (and_t (and_t (and_t (and_t (and_t (and_t (and_t (and_t (and_t (and_t (and_t (and_t (and_t (and_t (and_t (and_t (and_t (and_t (and_t (and_t (and_t (and_t (and_t (and_t volNil_f1 pf2) pf3) volNil_f4) volNil_f5) rfl) pf6) rfl) pf7) volNil_f8) volNil_f9) volNil_f10) volNil_f11) volNil_f12) volNil_f12b) volNil_f12c) volNil_f20) volNil_f20b) volNil_f20c) volNil_f20d) volNil_f20e) volNil_f20f) ?_) rfl) pf14) pf15) ?_) ?_) rfl) rfl) volNil_f18) volNil_f19
  · rw [pf13]; rfl
  · rw [pf16]; rfl
  · kernel_rfl

theorem volNil_over : Rows.volNilRow.holds Tryz.pinned (OpenSpec.ofChange Rows.volNilSpec) :=
  OpenClaim.holds_of_wide 6 Tryz.f6 rfl rfl rfl rfl rfl rfl rfl ⟨rfl, rfl, rfl, rfl, rfl⟩ rfl rfl rfl rfl rfl volNil_f0 Tryz.func6 volNil_closed volNil_f21 volNil_f22
    (fun os started H enc _ => volNil_lifted os started H enc)
theorem volnil_holds : Rows.VolNilSaid := volNil_over
#print axioms volnil_holds
end Go.Proofs.YtlkgjffffeohdaaGreat
