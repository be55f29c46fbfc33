/- The engine is sound, part ten: code, loops, calls, contracts. -/
import Derived.Test.YtlkgjffffeohdaaGreatEngA
import Derived.Deep.LoopGhost
set_option linter.unusedVariables false
set_option linter.unusedSimpArgs false
namespace Go.Eng
open Go

def clsO (T : Tab) (ops : Array Oper) : Nat → Cls := fun i => match ops[i]? with | some o => clsT T o.op | none => .free

/-- the static check of a region that draws -/
def drawOk (T : Tab) (ops : Array Oper) : Bool := regOk ops (clsO T ops)

def codeOk (n : Nat) : Code → Bool
  | .region _ ops _ => dstOk n ops.toList
  | .seq x y => codeOk n x && codeOk n y
  | .cond _ x y => codeOk n x && codeOk n y
  | .block _ x => codeOk n x
  | .loop x => codeOk n x
  | .scope x => codeOk n x
  | .rangeFunc _ _ x y => codeOk n x && codeOk n y
  | _ => true

section
variable {P : Program} {T : Tab} {n : Nat} {w0 : World} {H0 : HV} {M : Nat → Prop} {l : Env} {h : List LB} {H : HV} {a : Act} {w : World}

theorem CP_wpOps {ops : Array Oper} {cl : Nat → Cls} {Q : Exit → Act → World → Prop} : ∀ (r : List Nat) (a : Act) (w : World), CP P ops (fun _ => True) cl (fun a w => Q .normal a w) r a w → wpOps P ops Q r a w
  | [], a, w, h => h
  | i :: r, a, w, h => by
    rw [wpOps_cons]
    simp only [CP] at h
    cases ho : ops[i]? with
    | none => rw [ho] at h; unfold wpOp; simp only [ho]; exact CP_wpOps r a w h
    | some o => rw [ho] at h; exact h.wpOp ho trivial (fun a w _ hk => CP_wpOps r a w hk)

theorem CP_end {ops : Array Oper} {cl : Nat → Cls} {Q Q' : Act → World → Prop} (hq : ∀ a w, Q a w → Q' a w) : ∀ (r : List Nat) (a : Act) (w : World),
    CP P ops (fun _ => True) cl Q r a w → CP P ops (fun _ => True) cl Q' r a w
  | [], a, w, h => hq a w h
  | i :: r, a, w, h => by
    simp only [CP] at h ⊢
    cases ho : ops[i]? with
    | none => rw [ho] at h; exact CP_end hq r a w h
    | some o => rw [ho] at h; exact h.mono trivial (fun a w _ hk => CP_end hq r a w hk)

theorem region_sound (hT : tabOk P T = true) {ops : Array Oper} {id : Nat} {KL : Env → List LB → HV → Prop} (hd : dstOk n ops.toList = true) (hs : Sat n (Desc w0 H0 M) l h H a w)
    (hk : exOps P T w0.heap.size M (Desc w0 H0 M) ops KL ops.toList l h H) : (Code.region id ops false).wp P (fun e a' w' => e = .normal ∧ AfterL n w0 H0 M a' w' KL) a w := by
  refine wp_region ?_
  have h1 := exOps_sound (P := P) hT (ops := ops) (KL := KL) ops.toList 0 (fun j => by rw [Array.getElem?_toList, Nat.zero_add]) hd l h H a w hs hk
  rw [Array.length_toList, ← List.range_eq_range'] at h1
  exact CP_wpOps (cl := clsO T ops) _ _ _ (CP_end (fun a w hA => ⟨rfl, hA⟩) _ _ _ h1)

theorem VDraw.text {ops : Array Oper} {K : Env → List LB → HV → Prop} (hT : tabOk P T = true) (hm : P.follows .mixedOrders = true) (hok : (drawOk T ops && dstOk n ops.toList) = true)
    (hk : exOps P T w0.heap.size M (Desc w0 H0 M) ops K ops.toList l h H) : VDraw P n (Desc w0 H0 M) ops l h H K := by
  simp only [Bool.and_eq_true] at hok
  constructor
  intro a w id hs
  have hs' : Sat n (Desc w0 H0 M) l h H a w.drew := ⟨hs.fr, hs.ds.drew⟩
  have h1 := exOps_sound (P := P) hT (ops := ops) (KL := K) ops.toList 0 (fun j => by rw [Array.getElem?_toList, Nat.zero_add]) hok.2 l h H a w.drew hs' hk
  rw [Array.length_toList, ← List.range_eq_range'] at h1
  exact region_text (J := fun _ => True) (cl := clsO T ops) hm hok.1 trivial (CP_end (fun a w hA => ⟨rfl, hA⟩) _ _ _ h1)

theorem vc_sound (hT : tabOk P T = true) : ∀ (c : Code) (K : KK) (l : Env) (h : List LB) (H : HV) (a : Act) (w : World), codeOk n c = true → Sat n (Desc w0 H0 M) l h H a w →
    vc P T n w0.heap.size M (Desc w0 H0 M) c K l h H → c.wp P (liftK n (Desc w0 H0 M) K) a w
  | .skip, K, l, h, H, a, w, _, hs, hk => wp_skip ⟨l, h, H, hs, hk⟩
  | .label _, K, l, h, H, a, w, _, hs, hk => wp_label ⟨l, h, H, hs, hk⟩
  | .exit id, K, l, h, H, a, w, _, hs, hk => wp_exit ⟨l, h, H, hs, hk⟩
  | .ret, K, l, h, H, a, w, _, hs, hk => wp_ret ⟨l, h, H, hs, hk⟩
  | .seq x y, K, l, h, H, a, w, hc, hs, hk => by
    simp only [codeOk, Bool.and_eq_true] at hc
    refine wp_seq (wp_mono (vc_sound hT x _ l h H a w hc.1 hs hk) ?_)
    rintro e a' w' ⟨l', h', H', hs', hk'⟩
    cases e with
    | normal => exact vc_sound hT y K l' h' H' a' w' hc.2 hs' hk'
    | _ => exact ⟨l', h', H', hs', hk'⟩
  | .cond c x y, K, l, h, H, a, w, hc, hs, hk => by
    simp only [codeOk, Bool.and_eq_true] at hc
    simp only [vc] at hk
    cases he : ev l c with
    | none => rw [he] at hk; exact hk.elim
    | some s =>
      rw [he] at hk
      split at hk <;> first | (exact hk.elim) | skip
      rename_i b heq
      cases heq
      have ee : a.eval c = .bool b := (ev_sound hs.fr he).1
      rcases vif_cases hk with ⟨rfl, hk⟩ | ⟨rfl, hk⟩
      · exact wp_cond ee (vc_sound hT x K l h H a w hc.1 hs hk)
      · exact wp_cond ee (vc_sound hT y K l h H a w hc.2 hs hk)
  | .block id c, K, l, h, H, a, w, hc, hs, hk => by
    refine wp_block (wp_mono (vc_sound hT c _ l h H a w hc hs hk) ?_)
    rintro e a' w' ⟨l', h', H', hs', hk'⟩
    cases e with
    | exit id' =>
      simp only [blockK] at hk'
      simp only [Exit.inBlock]
      cases hb : Nat.beq id' id with
      | true =>
        rw [hb] at hk'
        rw [if_pos (Nat.eq_of_beq_eq_true hb)]
        exact ⟨l', h', H', hs', hk'⟩
      | false =>
        rw [hb] at hk'
        have : id' ≠ id := fun e => by rw [e] at hb; simp at hb
        rw [if_neg this]
        exact ⟨l', h', H', hs', hk'⟩
    | _ => exact ⟨l', h', H', hs', hk'⟩
  | .loop c, K, l, h, H, a, w, _, hs, hk => hk.out a w hs
  | .rangeFunc f ps x y, K, l, h, H, a, w, _, hs, hk => hk.out a w hs
  | .region id ops draw, K, l, h, H, a, w, hc, hs, hk => by
    cases draw with
    | false =>
      refine wp_mono (region_sound hT hc hs hk) ?_
      rintro e a' w' ⟨rfl, hA⟩
      exact hA
    | true =>
      refine wp_mono (hk.out a w id hs) ?_
      rintro e a' w' ⟨rfl, hA⟩
      exact hA
  | .scope _, _, _, _, _, _, _, _, _, hk => hk.elim
  | .goto _, _, _, _, _, _, _, _, _, hk => hk.elim
  | .refuse _, _, _, _, _, _, _, _, _, hk => hk.elim

/-! ### loops -/
def leL : Env → Env → Prop
  | [], _ => True
  | (t, s) :: r, l => look l t = some s ∧ leL r l

theorem leL_look : ∀ {l' l : Env}, leL l' l → ∀ t s, look l' t = some s → look l t = some s
  | [], _, _, t, s, h => by cases h
  | (t', s') :: r, l, hl, t, s, h => by
    simp only [look] at h
    cases hb : Nat.beq t' t with
    | true =>
      rw [hb] at h
      have := Nat.eq_of_beq_eq_true hb
      subst this
      simp at h; subst h
      exact hl.1
    | false => rw [hb] at h; exact leL_look hl.2 t s h

theorem Sat.weaken {l' : Env} (hs : Sat n (Desc w0 H0 M) l h H a w) (hl : leL l' l) : Sat n (Desc w0 H0 M) l' h H a w :=
  ⟨⟨hs.fr.d, hs.fr.sz, fun t s ht => hs.fr.kn t s (leL_look hl t s ht)⟩, hs.ds⟩

theorem VLoop.of {X : Type} (l_ : X → Env) (h_ : X → List LB) (H_ : X → HV) (I : X → Prop) (μ : X → Nat) {c : Code} {K : KK} (hT : tabOk P T = true) (hc : codeOk n c = true) (x0 : X) (hI : I x0)
    (hl : leL (l_ x0) l) (hh : h = h_ x0) (hH : H = H_ x0)
    (round : ∀ x, I x → vc P T n w0.heap.size M (Desc w0 H0 M) c (thenK (fun l' h' H' => ∃ x', I x' ∧ μ x' < μ x ∧ leL (l_ x') l' ∧ h' = h_ x' ∧ H' = H_ x') K) (l_ x) (h_ x) (H_ x)) :
    VLoop P n (Desc w0 H0 M) c l h H K := by
  constructor
  intro a w hs
  subst hh; subst hH
  refine wp_loop_ghost (fun m a w => ∃ x, μ x = m ∧ I x ∧ Sat n (Desc w0 H0 M) (l_ x) (h_ x) (H_ x) a w) (μ x0) ⟨x0, rfl, hI, hs.weaken hl⟩ ?_
  rintro m a w ⟨x, rfl, hI, hs⟩
  refine wp_mono (vc_sound (P := P) hT c _ _ _ _ a w hc hs (round x hI)) ?_
  rintro e a' w' ⟨l', h', H', hs', hk'⟩
  cases e with
  | normal =>
    obtain ⟨x', hI', hlt, hl', rfl, rfl⟩ := hk'
    exact ⟨μ x', hlt, x', rfl, hI', hs'.weaken hl'⟩
  | _ => exact ⟨l', h', H', hs', hk'⟩

/-! ### calls -/
theorem Kp.trans {M M' : Nat → Prop} {w1 w2 w3 : World} (h1 : Kp M w1 w2) (h2 : Kp M' w2 w3) (hM : ∀ i, i < w1.heap.size → M' i → M i) : Kp M w1 w3 :=
  ⟨h2.os.trans h1.os, h2.tape.trans h1.tape, h2.output.trans h1.output, Nat.le_trans h1.size h2.size, fun i hi hn => by
    rw [h2.old i (Nat.lt_of_lt_of_le hi h1.size) (fun h => hn (hM i hi h)), h1.old i hi hn]⟩

theorem Kp.mono {M M' : Nat → Prop} {w1 w2 : World} (h : Kp M w1 w2) (hM : ∀ i, i < w1.heap.size → M i → M' i) : Kp M' w1 w2 :=
  ⟨h.os, h.tape, h.output, h.size, fun i hi hn => h.old i hi (fun hh => hn (hM i hi hh))⟩

theorem VCall.pure_ {f : Nat} {args : List Value} {K : Value → HV → Prop} {v : Value} (has : hasB P f = true)
    (hc : ∀ w, (∀ i o, H i = some o → w.heap[i]? = some o) → Calls P f args.toArray w (RetP v w)) (hK : K v H) : VCall P w0.heap.size f args h H (Desc w0 H0 M) K := by
  refine ⟨has, fun w d => (hc w d.sub).mono ?_⟩
  rintro e w' ⟨rfl, hk⟩
  refine ⟨v, H, rfl, ?_, hK⟩
  refine d.move (X := fun _ => False) ⟨hk.os, hk.tape, hk.output, hk.size, fun _ h => h.elim, fun i hi _ => hk.old i hi (fun h => h), fun i x hi => .inl ⟨fun h => h, hi⟩, fun i x hi => .inl ⟨x, hi⟩, fun i x hi _ => hi⟩ ?_ d.inj d.okc
  intro k r ty cs hk'
  obtain ⟨g1, g2, g3⟩ := d.loc k r ty cs hk'
  exact ⟨by rw [hk.old r (lt_of_get g1) (fun h => h)]; exact g1, g2, g3⟩

theorem VCall.ret {f : Nat} {args : List Value} {K : Value → HV → Prop} {M' : Nat → Prop} {Post : Value → HV → Prop} (has : hasB P f = true)
    (hc : ∀ w, (∀ i o, H i = some o → w.heap[i]? = some o) → Calls P f args.toArray w (Ret H M' Post w)) (hM : ∀ i, M' i → (∃ o, H i = some o) ∧ (M i ∨ w0.heap.size ≤ i))
    (hK : ∀ v H', (∀ i o, H i = some o → ¬ M' i → H' i = some o) → (∀ i o, H' i = some o → (∃ o', H i = some o') ∨ w0.heap.size ≤ i) → Post v H' → K v H') :
    VCall P w0.heap.size f args h H (Desc w0 H0 M) K := by
  refine ⟨has, fun w d => (hc w d.sub).mono ?_⟩
  rintro e w' ⟨v, H1, rfl, hk, hsub, hdom, hkeep, hP⟩
  have hdom' : ∀ i o, H1 i = some o → (∃ o', H i = some o') ∨ w0.heap.size ≤ i := by
    intro i o hi
    rcases hdom i o hi with hne | hle
    · left
      cases hh : H i with
      | none => exact (hne hh).elim
      | some o' => exact ⟨o', rfl⟩
    · right; have := d.kp.size; omega
  refine ⟨v, H1, rfl, ?_, hK v H1 hkeep hdom' hP⟩
  refine d.move (X := M') ⟨hk.os, hk.tape, hk.output, hk.size, fun i hi => (hM i hi).2, fun i hi hX => hk.old i hi hX, fun i x hi => .inr (hsub i x hi), hdom', hkeep⟩ ?_ d.inj d.okc
  intro k r ty cs hk'
  obtain ⟨g1, g2, g3⟩ := d.loc k r ty cs hk'
  have hnM : ¬ M' r := fun hm => by obtain ⟨⟨o, ho⟩, _⟩ := hM r hm; rw [g3] at ho; cases ho
  have hlt := lt_of_get g1
  refine ⟨by rw [hk.old r hlt hnM]; exact g1, g2, ?_⟩
  cases hh : H1 r with
  | none => rfl
  | some o =>
    exfalso
    rcases hdom r o hh with hne | hle
    · exact hne g3
    · omega

/-! ### a function -/
def resOp (tmps : Array Value) : ResultVar → Sem Value
  | .tmp t => pure (tmps.getD t undef)
  | .cell a t => do loadVar t (← asAddr (tmps.getD a undef))

theorem results_def (fn : Func) (tmps : Array Value) : results fn tmps = (do
    let vs ← fn.results.mapM (resOp tmps)
    pure (if h : vs.size = 1 then vs[0] else .tuple vs)) := by
  unfold results
  congr 1

theorem resV_sound (hT : tabOk P T = true) (hf : Fr n l h a) {h0 : List LB} (hle : LBle h0 h) (hf0 : Fr n l h0 a) (d : Desc w0 H0 M h H w) {rv : ResultVar} {K : Value → List LB → HV → Prop} (hk : resV T l h H rv K) :
    ∃ v h' H', (resOp a.tmps rv).run P w = .ok v w ∧ LBle h h' ∧ Desc w0 H0 M h' H' w ∧ K v h' H' := by
  cases rv with
  | tmp t =>
    simp only [resV] at hk
    cases hl : look l t with
    | none => rw [hl] at hk; exact hk.elim
    | some s =>
      rw [hl] at hk
      obtain ⟨e, ok⟩ := hf.kn t s hl
      obtain ⟨h', H', l', d', hK⟩ := expo_sound d ok hk
      exact ⟨s.val, h', H', by show Result.ok (a.tmps.getD t undef) w = _; rw [e], l', d', hK⟩
  | cell t ty =>
    simp only [resV] at hk
    cases hl : look l t with
    | none => rw [hl] at hk; exact hk.elim
    | some s =>
      rw [hl] at hk
      obtain ⟨e, ok⟩ := hf.kn t s hl
      split at hk <;> first | (exact hk.elim) | skip
      · rename_i k r off heq
        cases heq
        split at hk <;> first | (exact hk.elim) | skip
        rename_i r' ty' cs hnth
        rcases ok with hd | ⟨ty'', cs', hk'⟩
        · rw [hnth] at hd; cases hd
        · rw [hnth] at hk'; cases hk'
          obtain ⟨hb, _, _⟩ := d.loc _ _ _ _ hnth
          cases htt : lookT T ty with
          | none => rw [htt] at hk; exact hk.elim
          | some ti =>
            rw [htt] at hk; simp only at hk
            have hty := tabOk_look hT htt
            have run : ∀ v, (loadVar ty ⟨r, off, none⟩).run P w = .ok v w → (do loadVar ty (← asAddr (a.tmps.getD t undef)) : Sem Value).run P w = .ok v w := by
              intro v hv
              rw [e]
              simp only [SV.val, asAddr, Sem.run_bind, Sem.run_pure, Result.andThen_ok, hv]
            split at hk
            · rename_i ha
              split at hk <;> first | (exact hk.elim) | skip
              rename_i s hs
              rw [nth_eq] at hs
              have hv : (cs.map SV.val).toArray[off]? = some s.val := by simp [hs]
              obtain ⟨h', H', l', d', hK⟩ := expo_sound d (d.okc _ _ _ _ hnth s (List.mem_of_getElem? hs)) hk
              exact ⟨s.val, h', H', run _ ((run_loadVar hty hb).1 ha _ hv), l', d', hK⟩
            · rename_i ha
              split at hk <;> first | (exact hk.elim) | skip
              rename_i vs hvs
              obtain ⟨ee, hll⟩ := takeV_eq _ _ _ _ hvs
              have hle : off + ti.sz ≤ (cs.map SV.val).toArray.size ∨ ti.sz = 0 := by
                rw [ee] at hll
                simp only [List.length_take, List.length_drop] at hll
                simp only [List.size_toArray, List.length_map] at hll ⊢
                omega
              refine ⟨_, h, H, run (.agg ⟨vs⟩) ?_, LBle.refl h, d, hk⟩
              rcases hle with hle | h0
              · rw [(run_loadVar hty hb).2 ha hle]
                congr 2
                apply Array.ext'
                rw [ee, Array.toList_extract]
                simp only [List.extract_eq_drop_take']
                rw [List.drop_take, show off + ti.sz - off = ti.sz from by omega]
              · have : vs = [] := List.length_eq_zero_iff.1 (by omega)
                subst this
                unfold loadVar
                simp only [Sem.run_bind, hty.run_agg w, Result.andThen_ok, ha, if_true, hty.run_size w, h0]
                rfl
      · rename_i b off heq
        cases heq
        cases htt : lookT T ty with
        | none => rw [htt] at hk; exact hk.elim
        | some ti =>
          rw [htt] at hk; simp only at hk
          have hty := tabOk_look hT htt
          have run : ∀ v, (loadVar ty ⟨b, off, none⟩).run P w = .ok v w → (do loadVar ty (← asAddr (a.tmps.getD t undef)) : Sem Value).run P w = .ok v w := by
            intro v hv
            rw [e]
            simp only [SV.val, asAddr, Sem.run_bind, Sem.run_pure, Result.andThen_ok, hv]
          split at hk
          · rename_i ha
            obtain ⟨v, ⟨arr, ty', fr, hb, hv⟩, hK⟩ := hk
            exact ⟨v, h, H, run _ ((run_loadVar hty (d.sub _ _ hb)).1 ha v hv), LBle.refl h, d, hK⟩
          · rename_i ha
            obtain ⟨vs, ⟨arr, ty', fr, hb, hl', rfl⟩, hK⟩ := hk
            exact ⟨_, h, H, run _ ((run_loadVar hty (d.sub _ _ hb)).2 ha hl'), LBle.refl h, d, hK⟩

theorem fr_le {h' : List LB} (hf : Fr n l h a) (hle : LBle h h') : Fr n l h' a := ⟨hf.d, hf.sz, fun t s ht => ⟨(hf.kn t s ht).1, hle s (hf.kn t s ht).2⟩⟩

theorem resVs_sound (hT : tabOk P T = true) : ∀ (rs : List ResultVar) {h : List LB} {H : HV} {K : List Value → List LB → HV → Prop}, Fr n l h a → Desc w0 H0 M h H w → resVs T l rs h H K →
    ∃ vs h' H', (rs.mapM (resOp a.tmps)).run P w = .ok vs w ∧ Desc w0 H0 M h' H' w ∧ K vs h' H'
  | [], h, H, K, hf, d, hk => ⟨[], h, H, rfl, d, hk⟩
  | rv :: rs, h, H, K, hf, d, hk => by
    simp only [resVs] at hk
    obtain ⟨v, h1, H1, hr, hle, d1, hk1⟩ := resV_sound (P := P) hT hf (LBle.refl h) hf d hk
    obtain ⟨vs, h2, H2, hr2, d2, hk2⟩ := resVs_sound hT rs (fr_le hf hle) d1 hk1
    refine ⟨v :: vs, h2, H2, ?_, d2, hk2⟩
    simp only [List.mapM_cons, Sem.run_bind, hr, Result.andThen_ok, hr2, Sem.run_pure]

theorem argsK_eq : ∀ (args : List Value) (k : Nat) {K : Env → Prop}, argsK k args K → K (args0 k args)
  | [], k, K, h => h
  | v :: vs, k, K, h => argsK_eq vs (k + 1) (K := fun l => K ((k, .v v) :: l)) h

theorem args0_look : ∀ (args : List Value) (k t : Nat) (s : SV), look (args0 k args) t = some s → k ≤ t ∧ ∃ v, args[t - k]? = some v ∧ s = .v v
  | [], k, t, s, h => by cases h
  | v :: vs, k, t, s, h => by
    simp only [args0, look] at h
    cases hb : Nat.beq k t with
    | true =>
      rw [hb] at h
      have := Nat.eq_of_beq_eq_true hb
      subst this
      simp at h; subst h
      exact ⟨Nat.le_refl _, v, by simp, rfl⟩
    | false =>
      rw [hb] at h
      obtain ⟨h1, v', h2, h3⟩ := args0_look vs (k + 1) t s h
      exact ⟨by omega, v', by rw [show t - k = (t - (k + 1)) + 1 from by omega]; simpa using h2, h3⟩

theorem fn_ret {f : Nat} {fn : Func} {c : Code} {args : List Value} {Post : Value → HV → Prop} (hT : tabOk P T = true) (hf : P.funcs[f]? = some fn) (hb : fn.body = some c) (hc : codeOk fn.ntmps c = true)
    (hs : ∀ i o, H0 i = some o → w.heap[i]? = some o) (hk : argsK 0 args (fun l => vc P T fn.ntmps w.heap.size M (Desc w H0 M) c (finK T fn.results.toList Post) l [] H0)) :
    Calls P f args.toArray w (Ret H0 M Post w) := by
  refine calls_of_wp hf hb ?_
  have hd : Desc w H0 M [] H0 w := ⟨Kp.refl M w, fun i o hi => lt_of_get (hs i o hi), hs, fun i o hi => .inl (by rw [hi]; simp), fun i o hi _ => hi, fun k r ty cs hk => (by cases hk), fun k k' r ty cs ty' cs' hk => (by cases hk), fun k r ty cs hk => (by cases hk)⟩
  have hfr : Fr fn.ntmps (args0 0 args) [] { tmps := args.toArray ++ Array.replicate (fn.ntmps - args.toArray.size) undef, defers := [] } := by
    refine ⟨rfl, by simp; omega, ?_⟩
    intro t s ht
    obtain ⟨_, v, hv, rfl⟩ := args0_look args 0 t s ht
    rw [Nat.sub_zero] at hv
    obtain ⟨hlt, he⟩ := List.getElem?_eq_some_iff.1 hv
    refine ⟨?_, trivial⟩
    simp [Array.getElem?_append, hlt, SV.val, he]
  refine wp_mono (vc_sound (P := P) hT c _ _ _ _ _ _ hc ⟨hfr, hd⟩ (argsK_eq args 0 hk)) ?_
  rintro e a' w' ⟨l', h', H', hs', hk'⟩
  have fin : resVs T l' fn.results.toList h' H' (fun vs _ H => match vs with | [v] => Post v H | vs => Post (.tuple ⟨vs⟩) H) →
      a'.defers = [] ∧ ∃ v, (results fn a'.tmps).run P w' = .ok v w' ∧ Ret H0 M Post w (.returned v) w' := by
    intro hr
    obtain ⟨vs, h2, H2, hm, d2, hP⟩ := resVs_sound (P := P) hT _ hs'.fr hs'.ds hr
    refine ⟨hs'.fr.d, (if h : vs.toArray.size = 1 then vs.toArray[0] else .tuple vs.toArray), ?_, ?_⟩
    · rw [results_def]
      simp only [Sem.run_bind]
      rw [Array.mapM_eq_mapM_toList, Sem.run_map, hm]
      simp only [Result.andThen_ok, Sem.run_pure]
    · refine ⟨_, H2, rfl, d2.kp, d2.sub, d2.dom, d2.keep, ?_⟩
      cases vs with
      | nil => exact hP
      | cons v vs =>
        cases vs with
        | nil => exact hP
        | cons v2 vs =>
          simp only [List.size_toArray, List.length_cons]
          rw [dif_neg (by omega)]
          exact hP
  cases e with
  | normal => exact fin hk'
  | ret => exact fin hk'
  | exit id => exact hk'.elim
  | goto l => exact hk'.elim
  | panic ch => exact hk'.elim
  | outgrown => exact hk'.elim

theorem fn_pure {f : Nat} {fn : Func} {c : Code} {args : List Value} {v : Value} (hT : tabOk P T = true) (hf : P.funcs[f]? = some fn) (hb : fn.body = some c) (hc : codeOk fn.ntmps c = true)
    (hs : ∀ i o, H0 i = some o → w.heap[i]? = some o) (hk : argsK 0 args (fun l => vc P T fn.ntmps w.heap.size (fun _ => False) (Desc w H0 (fun _ => False)) c (finK T fn.results.toList (fun r _ => r = v)) l [] H0)) :
    Calls P f args.toArray w (RetP v w) := by
  refine (fn_ret hT hf hb hc hs hk).mono ?_
  rintro e w' ⟨r, H1, rfl, hkp, _, _, _, rfl⟩
  exact ⟨rfl, hkp⟩

theorem vif_dec {φ : Prop} [Decidable φ] {p q : Prop} (h1 : φ → p) (h2 : ¬ φ → q) : vif (decide φ) p q := by
  by_cases hφ : φ
  · rw [decide_eq_true hφ]; exact h1 hφ
  · rw [decide_eq_false hφ]; exact h2 hφ

theorem vif_not {φ : Prop} [Decidable φ] {p q : Prop} (h1 : ¬ φ → p) (h2 : φ → q) : vif (!decide φ) p q := by
  by_cases hφ : φ
  · rw [decide_eq_true hφ]; exact h2 hφ
  · rw [decide_eq_false hφ]; exact h1 hφ

theorem vif_intro {b : Bool} {p q : Prop} (h1 : b = true → p) (h2 : b = false → q) : vif b p q := by
  cases b
  · exact h2 rfl
  · exact h1 rfl
end
end Go.Eng
