/- The engine is sound, part two: free operations. -/
import Derived.Test.YtlkgjffffeohdaaGreatEng2
set_option linter.unusedVariables false
set_option linter.unusedSimpArgs false
namespace Go.Eng
open Go

section
variable {P : Program} {T : Tab} {n : Nat} {l : Env} {h : List LB} {a : Act}

def plainV : Value → Bool
  | .agg _ => false
  | .nilIface => false
  | _ => true

theorem run_guard (op : BinOp) (t : TypeId) (x y : Operand) (u v : Value) (w : World) (h1 : plainV u = true) :
    (eqGuard op t x y u v).run P w = .ok () w := by
  unfold eqGuard
  cases op <;> (try rfl) <;> cases u <;> first | (cases h1; done) | (cases v <;> rfl)

theorem run_binOp {op : BinOp} {t : TypeId} {x y : Operand} {t2 : TypeId} {u v r : Value} {w : World} {o : Oper} (ho : o.op = .binOp op t x y t2) (hx : a.eval x = u) (hy : a.eval y = v)
    (h1 : plainV u = true) (hr : (binOp op t u v).run P w = .ok r w) :
    (execOp a.eval o).run P w = .ok (.value r) w := by
  unfold execOp
  simp only [ho, hx, hy, Sem.run_bind, run_guard op t x y u v w h1, Result.andThen_ok, hr]
  rfl

theorem int_beq (m n : Int) : (m == n) = decide (m = n) := rfl

theorem binInt_sound {op : BinOp} {k : IntKind} {m n : Int} {r : Value} (h : binInt op k m n = some r) (t : TypeId) (w : World) : (binOp op t (.int k m) (.int k n)).run P w = .ok r w := by
  cases op <;> simp [binInt] at h <;> subst h <;> simp [binOp, Op.intArith, Op.intBits, Op.intCmp, bitI, bne, int_beq]

def notNum : Value → Bool
  | .pointer _ | .bool _ | .slice _ _ _ | .map _ => true
  | _ => false

theorem eqIs_run {op : BinOp} {b : Bool} {s : SV} (hs : eqIs op b = some s) {t : TypeId} {u v : Value} (hu : notNum u = true) (w : World) (hb : (Op.equal t u v).run P w = .ok b w) :
    (binOp op t u v).run P w = .ok s.val w ∧ okSV h s ∧ plainV u = true := by
  have h0 : plainV u = true := by cases u <;> first | rfl | cases hu
  refine ⟨?_, ?_, h0⟩
  · cases op <;> simp [eqIs] at hs <;> subst hs
    · have : binOp .eql t u v = (do pure (.bool (← Op.equal t u v))) := by cases u <;> first | rfl | cases hu
      rw [this, Sem.run_bind, hb]; rfl
    · have : binOp .neq t u v = (do pure (.bool (!(← Op.equal t u v)))) := by cases u <;> first | rfl | cases hu
      rw [this, Sem.run_bind, hb]; rfl
  · cases op <;> simp [eqIs] at hs <;> subst hs <;> trivial

theorem eqIn_bool {t : TypeId} (hu : P.underlying t = some .bool) (d : Nat) (a b : Bool) (w : World) : (Op.equalIn (d + 1) t (.bool a) (.bool b)).run P w = .ok (a == b) w := by
  simp only [Op.equalIn, Sem.run_bind, run_underlying hu, Result.andThen_ok]; rfl
theorem eqIn_ptr {t e : TypeId} (hu : P.underlying t = some (.pointer e)) (d : Nat) (a b : Option Addr) (hab : a = none ∨ b = none) (w : World) :
    (Op.equalIn (d + 1) t (.pointer a) (.pointer b)).run P w = .ok (a.isNone && b.isNone) w := by
  rcases hab with rfl | rfl
  · simp only [Op.equalIn, Sem.run_bind, run_underlying hu, Result.andThen_ok]; rfl
  · cases a <;> (simp only [Op.equalIn, Sem.run_bind, run_underlying hu, Result.andThen_ok]; rfl)
theorem eqIn_slc {t e : TypeId} (hu : P.underlying t = some (.slice e)) (q : Nat) (a : Option Addr) (n m c d : Nat) (w : World) :
    (Op.equalIn (q + 1) t (.slice a n c) (.slice none m d)).run P w = .ok a.isNone w := by
  cases a <;> (simp only [Op.equalIn, Sem.run_bind, run_underlying hu, Result.andThen_ok]; rfl)
theorem eqIn_map {t k e : TypeId} (hu : P.underlying t = some (.map k e)) (q : Nat) (a : Option Nat) (w : World) :
    (Op.equalIn (q + 1) t (.map a) (.map none)).run P w = .ok a.isNone w := by
  cases a <;> (simp only [Op.equalIn, Sem.run_bind, run_underlying hu, Result.andThen_ok]; rfl)
theorem eq_bool {t : TypeId} (hu : P.underlying t = some .bool) (a b : Bool) (w : World) : (Op.equal t (.bool a) (.bool b)).run P w = .ok (a == b) w := eqIn_bool hu 9999 a b w
theorem eq_ptr {t e : TypeId} (hu : P.underlying t = some (.pointer e)) (a b : Option Addr) (hab : a = none ∨ b = none) (w : World) :
    (Op.equal t (.pointer a) (.pointer b)).run P w = .ok (a.isNone && b.isNone) w := eqIn_ptr hu 9999 a b hab w
theorem eq_slc {t e : TypeId} (hu : P.underlying t = some (.slice e)) (a : Option Addr) (n m c d : Nat) (w : World) :
    (Op.equal t (.slice a n c) (.slice none m d)).run P w = .ok a.isNone w := eqIn_slc hu 9999 a n m c d w
theorem eq_map {t k e : TypeId} (hu : P.underlying t = some (.map k e)) (a : Option Nat) (w : World) :
    (Op.equal t (.map a) (.map none)).run P w = .ok a.isNone w := eqIn_map hu 9999 a w

theorem fbin_sound {op : BinOp} {t : TypeId} {ti : TI} {x y s : SV} (hT : TyOk P t ti) (hf : fbin op ti.k x y = some s) (w : World) :
    (binOp op t x.val y.val).run P w = .ok s.val w ∧ okSV h s ∧ plainV x.val = true := by
  unfold fbin at hf
  split at hf
  · rename_i k m k' n
    split at hf
    · rename_i hk
      have := of_decide_eq_true hk
      subst this
      cases hb : binInt op k m n with
      | none => rw [hb] at hf; cases hf
      | some v =>
        rw [hb] at hf
        simp at hf; subst hf
        exact ⟨binInt_sound hb t w, trivial, rfl⟩
    · cases hf
  · split at hf
    · rename_i hk
      exact eqIs_run hf rfl w (eq_bool (hT.bool hk) _ _ w)
    · cases hf
  · rename_i a b
    cases op <;> simp [eqIs] at hf <;> subst hf <;> simp [SV.val, binOp, Op.stringOp, okSV, plainV]
  all_goals try (
    split at hf
    · rename_i hk
      obtain ⟨e, hu⟩ := hT.ptr hk
      exact eqIs_run hf rfl w (eq_ptr hu _ _ (by simp) w)
    · cases hf)
  all_goals try (
    split at hf
    · rename_i hk
      exact eqIs_run hf rfl w (eq_slc (hT.slc hk) _ _ _ _ _ w)
    · cases hf)
  all_goals try (
    split at hf
    · rename_i hk
      exact eqIs_run hf rfl w (eq_map (hT.map hk) _ w)
    · cases hf)
  cases hf

theorem add_addr (b off n : Nat) : (⟨b, off, none⟩ : Addr).add n = ⟨b, off + n, none⟩ := by
  unfold Addr.add
  split
  · rename_i h; subst h; rfl
  · rfl

theorem run_fieldAt {t : TypeId} {ti : TI} {fs : List (Nat × Nat × Bool)} {f o sz : Nat} {ag : Bool} (hT : TyOk P t ti) (hk : ti.k = .strct fs) (hx : nth fs f = some (o, sz, ag)) (hz : sz ≠ 0)
    (b off : Nat) (w : World) : (Instr.fieldAt t (.pointer (some ⟨b, off, none⟩)) f).run P w = .ok (.pointer (some ⟨b, off + o, none⟩)) w := by
  obtain ⟨fl, hu, hfl⟩ := hT.fields hk
  obtain ⟨fd, hfd, ho, ⟨inf, hi, hs⟩, hag, _⟩ := fieldsAre_get hfl f o sz ag hx
  have hfd' : fl[f]? = some fd := by rw [← hfd]; simp
  unfold Instr.fieldAt
  simp only [Sem.run_bind, run_underlying hu, Result.andThen_ok, hfd', Instr.sureAddr, Sem.run_pure, fieldPlace, sizeOf, typeInfo, run_program, hi]
  simp [hs, hz, add_addr, ho]

def PartIs (sz o : Nat) (vs : List Value) (r : Value) : Bool → Prop
  | false => nth vs o = some r
  | true => ∃ ws, takeV o sz vs = some ws ∧ r = .agg ⟨ws⟩

theorem run_part {f : TypeId} {sz o : Nat} {ag : Bool} (hi : ∃ inf, P.info? f = some inf ∧ inf.size = sz) (hag : aggT P f = ag) (hne : (P.underlying f).isSome = true) (vs : List Value) (w : World) (r : Value)
    (hr : PartIs sz o vs r ag) : (part f ⟨vs⟩ o).run P w = .ok r w := by
  obtain ⟨inf, hi, hs⟩ := hi
  obtain ⟨d, hd⟩ := Option.isSome_iff_exists.1 hne
  have hagg : (isAgg f).run P w = .ok ag w := by
    unfold isAgg
    rw [Sem.run_bind, run_underlying hd w]
    unfold aggT at hag
    rw [hd] at hag
    cases d <;> simp at hag <;> subst hag <;> simp
  unfold part
  simp only [Sem.run_bind, hagg, Result.andThen_ok]
  cases ag with
  | false =>
    simp only [Bool.false_eq_true, if_false]
    replace hr : nth vs o = some r := hr
    rw [nth_eq] at hr
    have : (⟨vs⟩ : Array Value)[o]? = some r := by simpa using hr
    rw [this]; rfl
  | true =>
    obtain ⟨ws, hw, rfl⟩ := hr
    obtain ⟨e, hl⟩ := takeV_eq _ _ _ _ hw
    simp only [if_true, Sem.run_bind, sizeOf, typeInfo, run_program, hi, Result.andThen_ok, Sem.run_pure, hs]
    congr 2
    have : (Array.mk vs).extract o (o + sz) = Array.mk ws := by
      apply Array.ext'
      rw [Array.toList_extract]
      simp only [List.extract_eq_drop_take', e]
      rw [List.drop_take, show o + sz - o = sz from by omega]
    rw [this]


theorem min_two (k k' : IntKind) (x y : Int) (w : World) (ts : Array TypeId) (t : TypeId) : (Builtin.min_ ts t #[.int k x, .int k' y]).run P w = .ok (.int k (minInt x y)) w := by
  simp [Builtin.min_, Builtin.min2, minInt]
theorem max_two (k k' : IntKind) (x y : Int) (w : World) (ts : Array TypeId) (t : TypeId) : (Builtin.max_ ts t #[.int k x, .int k' y]).run P w = .ok (.int k (maxInt x y)) w := by
  simp [Builtin.max_, Builtin.max2, maxInt]

theorem exec_builtin {o : Oper} {b : Builtin} {xs : Array Operand} {ats : Array TypeId} (ho : o.op = .call ⟨.builtin b, xs, ats⟩) (w : World) :
    (execOp a.eval o).run P w = (builtin b ats o.type (xs.map fun | .const _ => true | _ => false) (xs.map a.eval)).run P w := by
  unfold execOp
  simp only [ho, resolve, Sem.run_bind, Sem.run_pure, Result.andThen_ok, invoke]
  rfl

theorem fev_sound (hT : tabOk P T = true) (hf : Fr n l h a) {o : Oper} {s : SV} (he : fev T l o.op = some s) :
    (∀ w, (execOp a.eval o).run P w = .ok (.value s.val) w) ∧ okSV h s := by
  cases hop : o.op <;> rw [hop] at he <;> simp only [fev] at he <;> try (cases he; done)
  case move x =>
    obtain ⟨e, ok⟩ := ev_sound hf he
    exact ⟨fun w => by unfold execOp; simp [hop, e], ok⟩
  case assign x =>
    obtain ⟨e, ok⟩ := ev_sound hf he
    exact ⟨fun w => by unfold execOp; simp [hop, e], ok⟩
  case pick c x y =>
    cases hc : ev l c with
    | none => rw [hc] at he; cases he
    | some sc =>
      obtain ⟨ec, _⟩ := ev_sound hf hc
      rw [hc] at he
      split at he
      · rename_i heq
        cases heq
        obtain ⟨e, ok⟩ := ev_sound hf he
        exact ⟨fun w => by unfold execOp; simp [hop, ec, e, SV.val, asBool], ok⟩
      · rename_i heq
        cases heq
        obtain ⟨e, ok⟩ := ev_sound hf he
        exact ⟨fun w => by unfold execOp; simp [hop, ec, e, SV.val, asBool], ok⟩
      · cases he
  case nilCheck x =>
    cases hc : ev l x with
    | none => rw [hc] at he; cases he
    | some sc =>
      obtain ⟨ec, okc⟩ := ev_sound hf hc
      rw [hc] at he
      split at he <;> first | (cases he; done) | skip
      · rename_i ad heq
        cases heq; cases he
        exact ⟨fun w => by unfold execOp; simp [hop, ec, SV.val], trivial⟩
      · rename_i k r off heq
        cases heq; cases he
        exact ⟨fun w => by unfold execOp; simp [hop, ec, SV.val], okc⟩
      · rename_i heq
        cases heq; cases he
        exact ⟨fun w => by unfold execOp; simp [hop, ec, SV.val], trivial⟩
  case binOp op t x y t2 =>
    cases hx : ev l x with
    | none => rw [hx] at he; cases he
    | some sx =>
      cases hy : ev l y with
      | none => rw [hx, hy] at he; cases he
      | some sy =>
        cases ht : lookT T t with
        | none => rw [hx, hy, ht] at he; cases he
        | some ti =>
          rw [hx, hy, ht] at he
          simp only at he
          obtain ⟨ex, _⟩ := ev_sound hf hx
          obtain ⟨ey, _⟩ := ev_sound hf hy
          have hty := tabOk_look hT ht
          refine ⟨fun w => ?_, (fbin_sound (h := h) hty he default).2.1⟩
          obtain ⟨h1, _, h3⟩ := fbin_sound (h := h) hty he w
          exact run_binOp hop ex ey h3 h1
  case unOp op t x =>
    cases op <;> simp only at he <;> try (cases he; done)
    all_goals
      cases hc : ev l x with
      | none => rw [hc] at he; cases he
      | some sc =>
        obtain ⟨ec, okc⟩ := ev_sound hf hc
        rw [hc] at he
        split at he <;> first | (cases he; done) | skip
        rename_i heq
        cases heq; cases he
        exact ⟨fun w => by unfold execOp; simp [hop, ec, SV.val, Op.unary, Op.intArith, Op.intBits, bitI], trivial⟩
  case convert src dst x =>
    cases hd : lookT T dst with
    | none => rw [hd] at he; cases he
    | some ti =>
      rw [hd] at he; simp only at he
      split at he <;> first | (cases he; done) | skip
      rename_i k hk
      cases hs : lookT T src with
      | none => rw [hs] at he; cases he
      | some tj =>
        rw [hs] at he; simp only at he
        split at he <;> first | (cases he; done) | skip
        rename_i k2 hk2
        cases hc : ev l x with
        | none => rw [hc] at he; cases he
        | some sc =>
          obtain ⟨ec, okc⟩ := ev_sound hf hc
          rw [hc] at he
          split at he <;> first | (cases he; done) | skip
          rename_i k3 n3 heq
          cases heq; cases he
          refine ⟨fun w => ?_, trivial⟩
          unfold execOp
          simp [hop, ec, SV.val, convert, run_underlying ((tabOk_look hT hd).int hk), run_underlying ((tabOk_look hT hs).int hk2), Conv.intToInt]
  case fieldAddr t x f =>
    cases ht : lookT T t with
    | none => rw [ht] at he; cases he
    | some ti =>
      rw [ht] at he; simp only at he
      split at he <;> first | (cases he; done) | skip
      rename_i fs hk
      split at he <;> first | (cases he; done) | skip
      rename_i off sz ag hfx
      split at he <;> first | (cases he; done) | skip
      rename_i sz'
      cases hc : ev l x with
      | none => rw [hc] at he; cases he
      | some sc =>
        obtain ⟨ec, okc⟩ := ev_sound hf hc
        rw [hc] at he
        split at he <;> first | (cases he; done) | skip
        · rename_i b o' heq
          cases heq; cases he
          refine ⟨fun w => ?_, trivial⟩
          unfold execOp
          simp only [hop, ec, SV.val, Sem.run_bind, run_fieldAt (tabOk_look hT ht) hk hfx (Nat.succ_ne_zero _), Result.andThen_ok]
          rfl
        · rename_i k r o' heq
          cases heq; cases he
          refine ⟨fun w => ?_, okc⟩
          unfold execOp
          simp only [hop, ec, SV.val, Sem.run_bind, run_fieldAt (tabOk_look hT ht) hk hfx (Nat.succ_ne_zero _), Result.andThen_ok]
          rfl
  case field t x f =>
    cases ht : lookT T t with
    | none => rw [ht] at he; cases he
    | some ti =>
      rw [ht] at he; simp only at he
      split at he <;> first | (cases he; done) | skip
      rename_i fs hk
      split at he <;> first | (cases he; done) | skip
      rename_i off sz ag hfx
      cases hc : ev l x with
      | none => rw [hc] at he; cases he
      | some sc =>
        obtain ⟨ec, okc⟩ := ev_sound hf hc
        rw [hc] at he
        split at he <;> first | (cases he; done) | skip
        rename_i vs heq
        cases heq
        obtain ⟨fl, hu, hfl⟩ := (tabOk_look hT ht).fields hk
        obtain ⟨fd, hfd, ho, hinf, hag, hsm⟩ := fieldsAre_get hfl f off sz ag hfx
        have hfd' : fl[f]? = some fd := by rw [← hfd]; simp
        have key : ∀ r, PartIs sz off vs r ag → ∀ w, (execOp a.eval o).run P w = .ok (.value r) w := by
          intro r hr w
          unfold execOp
          simp only [hop, ec, SV.val, Instr.field, Sem.run_bind, run_underlying hu, Result.andThen_ok, hfd', asAgg, Sem.run_pure, ho, run_part hinf hag hsm vs w r hr]
        cases ag with
        | false =>
          simp only at he
          split at he <;> first | (cases he; done) | skip
          rename_i v hv
          cases he
          exact ⟨key v hv, trivial⟩
        | true =>
          simp only at he
          split at he <;> first | (cases he; done) | skip
          rename_i ws hws
          cases he
          exact ⟨key _ ⟨ws, hws, rfl⟩, trivial⟩
  case extract x i =>
    cases hc : ev l x with
    | none => rw [hc] at he; cases he
    | some sc =>
      obtain ⟨ec, okc⟩ := ev_sound hf hc
      rw [hc] at he
      split at he <;> first | (cases he; done) | skip
      rename_i vs heq
      cases heq
      split at he <;> first | (cases he; done) | skip
      rename_i v hv
      cases he
      refine ⟨fun w => ?_, trivial⟩
      have hv' : (⟨vs⟩ : Array Value)[i]? = some v := by rw [nth_eq] at hv; simpa using hv
      unfold execOp
      simp [hop, ec, SV.val, Instr.extract, hv']
  case call c =>
    obtain ⟨callee, args, ats⟩ := c
    simp only at he
    split at he <;> first | (cases he; done) | skip
    · split at he <;> first | (cases he; done) | skip
      rename_i x
      split at he <;> first | (cases he; done) | skip
      rename_i t ts
      cases ht : lookT T t with
      | none => rw [ht] at he; cases he
      | some ti =>
        rw [ht] at he; simp only at he
        have hx0 : ∀ w, (execOp a.eval o).run P w = (do pure (Next.value (← Builtin.len_ ⟨t :: ts⟩ o.type #[a.eval x])) : Sem Next).run P w := fun w => by rw [exec_builtin hop w]; simp [builtin]
        split at he <;> first | (cases he; done) | skip
        · rename_i e hk
          cases hc : ev l x with
          | none => rw [hc] at he; cases he
          | some sc =>
            obtain ⟨ec, okc⟩ := ev_sound hf hc
            rw [hc] at he
            split at he <;> first | (cases he; done) | skip
            rename_i heq
            cases heq; cases he
            exact ⟨fun w => by rw [hx0]; simp [Builtin.len_, ec, SV.val, run_underlying ((tabOk_look hT ht).slc hk), goInt], trivial⟩
        · rename_i hk
          cases hc : ev l x with
          | none => rw [hc] at he; cases he
          | some sc =>
            obtain ⟨ec, okc⟩ := ev_sound hf hc
            rw [hc] at he
            split at he <;> first | (cases he; done) | skip
            rename_i heq
            cases heq; cases he
            exact ⟨fun w => by rw [hx0]; simp [Builtin.len_, ec, SV.val, run_underlying ((tabOk_look hT ht).str hk), goInt], trivial⟩
        · rename_i m e hk
          cases he
          exact ⟨fun w => by rw [hx0]; simp [Builtin.len_, SV.val, run_underlying ((tabOk_look hT ht).arr hk), goInt], trivial⟩
    · split at he <;> first | (cases he; done) | skip
      rename_i x y
      cases hx : ev l x with
      | none => rw [hx] at he; cases he
      | some sx =>
        cases hy : ev l y with
        | none => rw [hx, hy] at he; split at he <;> cases he
        | some sy =>
          rw [hx, hy] at he
          obtain ⟨ex, _⟩ := ev_sound hf hx
          obtain ⟨ey, _⟩ := ev_sound hf hy
          split at he <;> first | (cases he; done) | skip
          rename_i heq1
          split at he <;> first | (cases he; done) | skip
          rename_i heq2
          cases heq1; cases heq2; cases he
          refine ⟨fun w => ?_, trivial⟩
          rw [exec_builtin hop w]
          simp only [builtin]
          have := min_two (P := P)
          simp [ex, ey, SV.val, this]
    · split at he <;> first | (cases he; done) | skip
      rename_i x y
      cases hx : ev l x with
      | none => rw [hx] at he; cases he
      | some sx =>
        cases hy : ev l y with
        | none => rw [hx, hy] at he; split at he <;> cases he
        | some sy =>
          rw [hx, hy] at he
          obtain ⟨ex, _⟩ := ev_sound hf hx
          obtain ⟨ey, _⟩ := ev_sound hf hy
          split at he <;> first | (cases he; done) | skip
          rename_i heq1
          split at he <;> first | (cases he; done) | skip
          rename_i heq2
          cases heq1; cases heq2; cases he
          refine ⟨fun w => ?_, trivial⟩
          rw [exec_builtin hop w]
          simp only [builtin]
          have := max_two (P := P)
          simp [ex, ey, SV.val, this]
end
end Go.Eng
