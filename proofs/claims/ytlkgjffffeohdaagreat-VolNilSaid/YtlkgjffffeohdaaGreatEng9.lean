/- The engine is sound, part eight: append, copy, ranges; one operation; a region; code. -/
import Derived.Test.YtlkgjffffeohdaaGreatEng8
set_option linter.unusedVariables false
set_option linter.unusedSimpArgs false
namespace Go.Eng
open Go

section
variable {P : Program} {T : Tab} {n : Nat} {w0 : World} {H0 : HV} {M : Nat → Prop} {l : Env} {h : List LB} {H : HV} {a : Act} {w : World} {o : Oper} {K : KS}

theorem lenOf_slice (ad : Option Addr) (m c : Nat) (w : World) : (Builtin.lenOf (.slice ad m c)).run P w = .ok m w := rfl
theorem lenOf_string (s : ByteArray) (w : World) : (Builtin.lenOf (.string s)).run P w = .ok s.size w := rfl

theorem rdS_len {H : HV} {sz m : Nat} {v : Value} {vs : List Value} (hr : RdS H sz m v vs) : vs.length ≤ m * sz ∨ ∃ s, v = .string s := by
  unfold RdS at hr
  split at hr
  · obtain ⟨arr, ty, fr, hb, hl, rfl⟩ := hr
    left; simp; omega
  · subst hr; left; simp
  · right; exact ⟨_, rfl⟩
  · exact hr.elim

theorem append_run (d : Desc w0 H0 M h H w) {t t2 e : TypeId} {ti te : TI} (ht : TyOk P t ti) (hk0 : ti.k = .slc e) (hte : TyOk P e te) {ty : TypeId} {d2 : TypeDesc} (ht2 : P.underlying t2 = some d2)
    (hd2 : (∃ e2, d2 = .slice e2) ∨ d2 = .string) {base : Option Addr} {sLen sCap m : Nat} {x : Value} (hx : (∃ a c, x = .slice a m c) ∨ ∃ s, x = .string s ∧ m = s.size)
    (hk : appendStop w0.heap.size M h H e te.sz te.by_ te.z base sLen sCap m x K) :
    ∃ v w', (Builtin.append_ #[t, t2] ty #[.slice base sLen sCap, x]).run P w = .ok v w' ∧ After1 w0 H0 M h w' K (.v v) := by
  obtain ⟨olds, news, h1, h2, h3, hby, hsz, hin, hout⟩ := hk.out
  have ro := fun (w' : World) (d' : Desc w0 H0 M h H w') => rdS_run (P := P) d' h1
  have rn := fun (w' : World) (d' : Desc w0 H0 M h H w') => rdS_run (P := P) d' h2
  have hlen : (Builtin.lenOf x).run P w = .ok m w := by
    rcases hx with ⟨a, c, rfl⟩ | ⟨s, rfl, rfl⟩ <;> rfl
  obtain ⟨inf, hinf, hs1, hs2⟩ := hte.run_info w
  have head : (Builtin.append_ #[t, t2] ty #[.slice base sLen sCap, x]).run P w =
      (if sLen + m ≤ sCap then (do
        let new ← Builtin.firstCells te.sz m x
        if let some a := base then storeCells (a.add (sLen * te.sz)) new.toList
        pure (.slice base (sLen + m) sCap) : Sem Value)
      else (do
        let newCap ← choose (.appendCap (sLen + m) sCap e)
        askRoom (newCap * te.by_)
        let old ← Builtin.firstCells te.sz sLen (.slice base sLen sCap)
        let new ← Builtin.firstCells te.sz m x
        let rest := Builtin.zeroCells (← zeroValue e).cells (newCap - (sLen + m))
        pure (.slice (some (← newRow e (old ++ new ++ rest))) (sLen + m) newCap) : Sem Value)).run P w := by
    unfold Builtin.append_
    simp only [List.getElem?_toArray, List.getElem?_cons_zero, List.getElem?_cons_succ, Sem.run_bind, run_underlying (ht.slc hk0), Result.andThen_ok, hte.run_size w]
    have n1 : ¬ sLen + m ≤ sCap → ¬ (Builtin.nextslicecap (sLen + m) sCap * te.by_ > 2 ^ 48) := by
      intro hnc
      have : (2 : Nat) ^ 48 = 281474976710656 := by decide
      have := hsz (by omega)
      omega
    have n2 : ¬ (te.by_ = 0) := by omega
    have info := fun w' => hte.run_info w'
    have hinf' : P.info? e = some inf := by
      have := hinf
      unfold typeInfo at this
      cases hq : P.info? e with
      | none => simp [hq] at this
      | some q => simp [hq] at this; rw [this]
    have hi : ∀ w', (typeInfo e).run P w' = .ok inf w' := fun w' => by simp [typeInfo, hinf']
    rcases hd2 with ⟨e2, rfl⟩ | rfl
    all_goals
      simp only [run_underlying ht2, Result.andThen_ok, Sem.run_pure, Bool.false_eq_true, if_false, Sem.run_bind, hlen, Bool.not_false, if_true]
      split
      · simp only [Sem.run_bind]
        cases base with
        | none => rfl
        | some ad => rfl
      · rename_i hnc
        simp only [Sem.run_bind, hi, Result.andThen_ok, hs2, n2, or_self, and_false, if_false, n1 hnc, Sem.run_pure]
  rw [head]
  by_cases hc : sLen + m ≤ sCap
  · rw [if_pos hc]
    have hin' := hin hc
    split at hin'
    · rename_i b off
      obtain ⟨arr, ty', fr, hb, hl, hf, hM, hK⟩ := hin'
      obtain ⟨H2, hU, d2⟩ := d.upd (.cells (setMany arr (off + sLen * te.sz) news) ty' fr) hb hM
      refine ⟨_, _, ?_, h, H2, trivial, LBle.refl h, d2, hK H2 hU⟩
      simp only [Sem.run_bind, rn w d, Result.andThen_ok, add_addr]
      rw [run_storeCells (P := P) (off + sLen * te.sz) news 0 w arr (d.sub _ _ hb) (by simpa using hl) (by simpa using hf) h3]
      rfl
    · refine ⟨_, w, ?_, h, H, trivial, LBle.refl h, d, hin'⟩
      simp only [Sem.run_bind, rn w d, Result.andThen_ok, Sem.run_pure]
    · exact hin'.elim
  · rw [if_neg hc]
    have hge := grownCap_ge w (sLen + m) sCap e
    obtain ⟨g1, g2, H2, hE, d2⟩ := (d.drew).alloc_ext (.cells (olds ++ news ++ zeroL (grownCap w (sLen + m) sCap e - (sLen + m)) te.z).toArray e (0, 0))
    refine ⟨.slice (some ⟨w.heap.size, 0, none⟩) (sLen + m) (grownCap w (sLen + m) sCap e), _, ?_, h, H2, trivial, LBle.refl h, d2, hout (by omega) _ _ H2 g1 g2 hge hE⟩
    obtain ⟨z, hz, hzc, _, _⟩ := hte.run_zero w.drew
    have hch : (choose (.appendCap (sLen + m) sCap e)).run P w = .ok (grownCap w (sLen + m) sCap e) w.drew := by
      simp [Question.forced, grownCap]
    simp only [Sem.run_bind, hch, Result.andThen_ok, run_askRoom, ro _ d.drew, rn _ d.drew, hz, newRow, run_newObj, Sem.run_pure]
    congr 1
    have : ((⟨olds⟩ : Array Value) ++ ⟨news⟩ ++ Builtin.zeroCells z.cells (grownCap w (sLen + m) sCap e - (sLen + m))) = (olds ++ news ++ zeroL (grownCap w (sLen + m) sCap e - (sLen + m)) te.z).toArray := by
      apply Array.ext'
      simp [zeroCells_eq, hzc]
    rw [this]
    rfl
end
end Go.Eng
