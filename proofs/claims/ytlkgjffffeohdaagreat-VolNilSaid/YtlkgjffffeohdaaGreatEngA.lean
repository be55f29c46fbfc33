/- The engine is sound, part nine: copy, ranges over maps; one operation; regions; code; contracts. -/
import Derived.Test.YtlkgjffffeohdaaGreatEng9
set_option linter.unusedVariables false
set_option linter.unusedSimpArgs false
namespace Go.Eng
open Go

section
variable {P : Program} {T : Tab} {n : Nat} {w0 : World} {H0 : HV} {M : Nat → Prop} {l : Env} {h : List LB} {H : HV} {a : Act} {w : World} {o : Oper} {K : KS}

theorem stop_append (hT : tabOk P T = true) (hf : Fr n l h a) (d : Desc w0 H0 M h H w) {c : Call} (hop : o.op = .call c) (hc : c.callee = .builtin .append)
    (hk : exStop P T w0.heap.size M (Desc w0 H0 M) (.call c) l h H K) : StepC P w0 H0 M h o a w K .main := by
  obtain ⟨callee, args, ats⟩ := c
  simp only at hc
  subst hc
  simp only [exStop] at hk
  split at hk <;> first | (exact hk.elim) | skip
  rename_i t t2
  cases ht : lookT T t with
  | none => rw [ht] at hk; exact hk.elim
  | some ti =>
    rw [ht] at hk; simp only at hk
    split at hk <;> first | (exact hk.elim) | skip
    rename_i e hk0
    cases hte : lookT T e with
    | none => rw [hte] at hk; exact hk.elim
    | some te =>
      cases ht2 : lookT T t2 with
      | none => rw [hte, ht2] at hk; exact hk.elim
      | some ti2 =>
        rw [hte, ht2] at hk; simp only at hk
        split at hk <;> first | (exact hk.elim) | skip
        rename_i s x
        cases hs : ev l s with
        | none => rw [hs] at hk; exact hk.elim
        | some ss =>
          rw [hs] at hk
          split at hk <;> first | (exact hk.elim) | skip
          rename_i base sLen sCap heq
          cases heq
          have es : a.eval s = .slice base sLen sCap := (ev_sound hf hs).1
          have fin : ∀ (d2 : TypeDesc) (m : Nat) (xv : Value), P.underlying t2 = some d2 → ((∃ e2, d2 = .slice e2) ∨ d2 = .string) → a.eval x = xv → ((∃ a c, xv = .slice a m c) ∨ ∃ s, xv = .string s ∧ m = s.size) →
              appendStop w0.heap.size M h H e te.sz te.by_ te.z base sLen sCap m xv K → StepC P w0 H0 M h o a w K .main := by
            intro d2 m xv hu hd2 ex hx hk
            obtain ⟨v, w', hr, hA⟩ := append_run (P := P) (ty := o.type) d (tabOk_look hT ht) hk0 (tabOk_look hT hte) hu hd2 hx hk
            refine step_main (s := .v v) ?_ hA
            rw [exec_builtin hop w]
            simp only [builtin, List.map_toArray, List.map_cons, List.map_nil, es, ex, SV.val, Sem.run_bind, hr, Result.andThen_ok, Sem.run_pure]
          split at hk <;> first | (exact hk.elim) | skip
          · rename_i e2 hk2
            cases hx : ev l x with
            | none => rw [hx] at hk; exact hk.elim
            | some sx =>
              rw [hx] at hk
              split at hk <;> first | (exact hk.elim) | skip
              rename_i ad m c heq
              cases heq
              exact fin _ m _ ((tabOk_look hT ht2).slc hk2) (.inl ⟨_, rfl⟩) (ev_sound hf hx).1 (.inl ⟨ad, c, rfl⟩) hk
          · rename_i hk2
            cases hx : ev l x with
            | none => rw [hx] at hk; exact hk.elim
            | some sx =>
              rw [hx] at hk
              split at hk <;> first | (exact hk.elim) | skip
              rename_i s heq
              cases heq
              exact fin _ s.size _ ((tabOk_look hT ht2).str hk2) (.inr rfl) (ev_sound hf hx).1 (.inr ⟨s, rfl, rfl⟩) hk

theorem stop_copy (hT : tabOk P T = true) (hf : Fr n l h a) (d : Desc w0 H0 M h H w) {c : Call} (hop : o.op = .call c) (hc : c.callee = .builtin .copy)
    (hk : exStop P T w0.heap.size M (Desc w0 H0 M) (.call c) l h H K) : StepC P w0 H0 M h o a w K .main := by
  obtain ⟨callee, args, ats⟩ := c
  simp only at hc
  subst hc
  simp only [exStop] at hk
  split at hk <;> first | (exact hk.elim) | skip
  rename_i t ts
  cases ht : lookT T t with
  | none => rw [ht] at hk; exact hk.elim
  | some ti =>
    rw [ht] at hk; simp only at hk
    split at hk <;> first | (exact hk.elim) | skip
    rename_i e hk0
    cases hte : lookT T e with
    | none => rw [hte] at hk; exact hk.elim
    | some te =>
      rw [hte] at hk; simp only at hk
      split at hk <;> first | (exact hk.elim) | skip
      rename_i dd x
      cases hs : ev l dd with
      | none => rw [hs] at hk; exact hk.elim
      | some ss =>
        rw [hs] at hk
        have run : ∀ (bs : Option Addr) (ln cp m : Nat) (xv : Value) (news : List Value) (w' : World), a.eval dd = .slice bs ln cp → a.eval x = xv → ((∃ a c, xv = .slice a m c) ∨ ∃ s, xv = .string s ∧ m = s.size) →
            RdS H te.sz (min m ln) xv news → (match bs with | some ad => (storeCells ad news).run P w = .ok () w' | none => w' = w) →
            (execOp a.eval o).run P w = .ok (.value (.int .i64 (min m ln : Nat))) w' := by
          intro bs ln cp m xv news w' ed ex hx hrd hst
          have hlen : (Builtin.lenOf xv).run P w = .ok m w := by
            rcases hx with ⟨a, c, rfl⟩ | ⟨s, rfl, rfl⟩ <;> rfl
          have hfc := rdS_run (P := P) d hrd
          have hcp : (Builtin.copy_ ⟨t :: ts⟩ o.type #[.slice bs ln cp, xv]).run P w = .ok (.int .i64 (min m ln : Nat)) w' := by
            unfold Builtin.copy_
            have hfc' : (Builtin.firstCells te.sz (Nat.min m ln) xv).run P w = .ok ⟨news⟩ w := hfc
            simp only [List.getElem?_toArray, List.getElem?_cons_zero, List.getElem?_cons_succ, Sem.run_bind, run_underlying ((tabOk_look hT ht).slc hk0), Result.andThen_ok, hlen, (tabOk_look hT hte).run_size w, hfc']
            cases bs with
            | none => simp only at hst; subst hst; rfl
            | some ad => simp only [hst, Result.andThen_ok, Sem.run_bind, Sem.run_pure]; rfl
          rw [exec_builtin hop w]
          simp only [builtin, List.map_toArray, List.map_cons, List.map_nil, ed, ex, SV.val, Sem.run_bind, hcp, Result.andThen_ok, Sem.run_pure]
        split at hk <;> first | (exact hk.elim) | skip
        · rename_i b off ln cp heq
          cases heq
          have ed : a.eval dd = .slice (some ⟨b, off, none⟩) ln cp := (ev_sound hf hs).1
          have fin : ∀ (m : Nat) (xv : Value) (news : List Value), a.eval x = xv → ((∃ a c, xv = .slice a m c) ∨ ∃ s, xv = .string s ∧ m = s.size) → RdS H te.sz (min m ln) xv news →
              extStore w0.heap.size M H b off news (fun H => K (.v (.int .i64 (min m ln : Nat))) h H) → StepC P w0 H0 M h o a w K .main := by
            intro m xv news ex hx hrd hst
            obtain ⟨arr, ty, fr, hb, hl, hff, hM, h1, hK⟩ := hst
            obtain ⟨H', hU, d'⟩ := d.upd (.cells (setMany arr off news) ty fr) hb hM
            refine step_main (s := .v (.int .i64 (min m ln : Nat))) (run _ ln cp m xv news _ ed ex hx hrd ?_) ⟨h, H', trivial, LBle.refl h, d', hK H' hU⟩
            have := run_storeCells (P := P) off news 0 w arr (d.sub _ _ hb) (by simpa using hl) (by simpa using hff) h1
            simpa using this
          cases hx : ev l x with
          | none => rw [hx] at hk; exact hk.elim
          | some sx =>
            rw [hx] at hk
            split at hk <;> first | (exact hk.elim) | skip
            · rename_i ad m c heq
              cases heq
              obtain ⟨news, hrd, hst⟩ := hk
              exact fin m _ news (ev_sound hf hx).1 (.inl ⟨ad, c, rfl⟩) hrd hst
            · rename_i s heq
              cases heq
              obtain ⟨news, hrd, hst⟩ := hk
              exact fin s.size _ news (ev_sound hf hx).1 (.inr ⟨s, rfl, rfl⟩) hrd hst
        · rename_i ln cp heq
          cases heq
          have ed : a.eval dd = .slice none ln cp := (ev_sound hf hs).1
          cases hx : ev l x with
          | none => rw [hx] at hk; exact hk.elim
          | some sx =>
            rw [hx] at hk
            split at hk <;> first | (exact hk.elim) | skip
            rename_i ad m c heq
            cases heq
            obtain ⟨news, hrd, hK⟩ := hk
            exact step_main (s := .v (.int .i64 (min m ln : Nat))) (run _ ln cp m _ news w ed (ev_sound hf hx).1 (.inl ⟨ad, c, rfl⟩) hrd rfl) ⟨h, H, trivial, LBle.refl h, d, hK⟩

theorem getObj_iter {w : World} {r : Nat} {o : Obj} (hb : w.heap[r]? = some o) (ho : ∀ c e f, o ≠ .cells c e f) : (getObj r).run P w = .ok o w := by
  cases o <;> first | (exact (ho _ _ _ rfl).elim) | (simp only [getObj, Sem.run, hb])

theorem setObj_iter {w : World} {r : Nat} {o : Obj} (o' : Obj) (hb : w.heap[r]? = some o) (ho : ∀ c e f, o ≠ .cells c e f) : (setObj r o').run P w = .ok () (World.putB w r o') := by
  cases o <;> first | (exact (ho _ _ _ rfl).elim) | (simp only [setObj, Sem.run, hb]; rfl)

theorem stop_range (hT : tabOk P T = true) (hf : Fr n l h a) (d : Desc w0 H0 M h H w) {t : TypeId} {x : Operand} (hop : o.op = .range t x)
    (hk : exStop P T w0.heap.size M (Desc w0 H0 M) (.range t x) l h H K) : StepC P w0 H0 M h o a w K .main := by
  simp only [exStop] at hk
  cases ht : lookT T t with
  | none => rw [ht] at hk; exact hk.elim
  | some ti =>
    rw [ht] at hk; simp only at hk
    split at hk <;> first | (exact hk.elim) | skip
    rename_i kt et hk0
    cases hx : ev l x with
    | none => rw [hx] at hk; exact hk.elim
    | some sx =>
      rw [hx] at hk
      split at hk <;> first | (exact hk.elim) | skip
      rename_i b heq
      cases heq
      have ex : a.eval x = .map (some b) := (ev_sound hf hx).1
      obtain ⟨es, c, hb, hk⟩ := hk
      obtain ⟨H2, d2, hK⟩ := newExt_sound d hk
      refine step_main (s := .v (.pointer (some ⟨w.heap.size, 0, none⟩))) ?_ ⟨h, H2, trivial, LBle.refl h, d2, hK⟩
      unfold execOp
      simp only [hop, ex, Instr.range, Sem.run_bind, run_underlying ((tabOk_look hT ht).map hk0), Result.andThen_ok, getObj_map (d.sub _ _ hb), Sem.run_pure, run_newObj]
      rfl

theorem stop_next (hf : Fr n l h a) (d : Desc w0 H0 M h H w) {x : Operand} {b : Bool} (hop : o.op = .next x b)
    (hk : exStop P T w0.heap.size M (Desc w0 H0 M) (.next x b) l h H K) : StepC P w0 H0 M h o a w K .main := by
  cases b with
  | true => exact hk.elim
  | false =>
    simp only [exStop] at hk
    cases hx : ev l x with
    | none => rw [hx] at hk; exact hk.elim
    | some sx =>
      rw [hx] at hk
      split at hk <;> first | (exact hk.elim) | skip
      rename_i r heq
      cases heq
      have ex : a.eval x = .pointer (some ⟨r, 0, none⟩) := (ev_sound hf hx).1
      obtain ⟨m, since, seen, last, es, c, hr, hm, hM, rfl, rfl, hborn, h1, h2⟩ := hk
      have hr' := d.sub _ _ hr
      have hm' := d.sub _ _ hm
      have hcond : (!seen.isEmpty && !es.isEmpty && es.all fun e => decide (e.born ≥ c)) = false := by
        cases hes : es.isEmpty with
        | true => simp
        | false =>
          have : (es.all fun e => decide (e.born ≥ c)) = false := by
            cases hall : es.all fun e => decide (e.born ≥ c) with
            | false => rfl
            | true =>
              exfalso
              have hne : es.toList ≠ [] := by intro e; simp at e; simp [e] at hes
              obtain ⟨e, he⟩ := List.exists_mem_of_ne_nil _ hne
              have h3 := Array.all_eq_true_iff_forall_mem.1 hall e (Array.mem_toList_iff.1 he)
              have := hborn e he
              simp at h3
              omega
          rw [this]; simp
      have hnew : ((es.filter fun e => !seen.contains e.born).filter fun e => decide (e.born ≥ c)) = #[] := by
        apply Array.filter_eq_empty_iff.2
        intro e he
        have := hborn e (Array.mem_toList_iff.2 (Array.mem_filter.1 he).1)
        simp; omega
      have hold : ((es.filter fun e => !seen.contains e.born).filter fun e => decide (e.born < c)) = es.filter fun e => !seen.contains e.born := by
        apply Array.filter_eq_self.2
        intro e he
        have := hborn e (Array.mem_toList_iff.2 (Array.mem_filter.1 he).1)
        simpa using this
      have run : (execOp a.eval o).run P w = (do
          let candidates : Array (Option MapEntry) := (if (es.filter fun (e : MapEntry) => !seen.contains e.born).isEmpty then #[none] else #[]) ++ ((es.filter fun (e : MapEntry) => !seen.contains e.born) ++ #[]).map some
          let v ← (do
            match candidates[← choose (.mapNext candidates.size)]? with
            | some (some e) =>
              setObj r (.mapIter (some m) c (seen.push e.born) c)
              pure (.tuple #[.bool true, e.key, e.val])
            | some none => pure (.tuple #[.bool false])
            | none => stuck "Next: no such candidate" : Sem Value)
          pure (.value v) : Sem Next).run P w := by
        unfold execOp
        simp only [hop, ex, Instr.next, Sem.run_bind, getObj_iter hr' (by intros; simp), Result.andThen_ok, getObj_map hm', hcond, Bool.false_eq_true, if_false, hold, hnew]
        rfl
      generalize hleft : (es.filter fun e => !seen.contains e.born) = left at run
      by_cases hemp : left.isEmpty = true
      · have hl0 : left = #[] := by simpa using hemp
        subst hl0
        have hK := h1 (fun e he => by
          have h3 : (!seen.contains e.born) = false := by
            cases hc : !seen.contains e.born with
            | false => rfl
            | true =>
              have : e ∈ es.filter fun e => !seen.contains e.born := Array.mem_filter.2 ⟨Array.mem_toList_iff.1 he, hc⟩
              rw [hleft] at this
              simp at this
          simp at h3
          exact Array.mem_toList_iff.2 h3)
        refine step_main (s := .v (.tuple #[.bool false])) ?_ ⟨h, H, trivial, LBle.refl h, d, hK⟩
        rw [run]
        simp [Question.forced]
        rfl
      · have hne : left.isEmpty = false := by simpa using hemp
        have hsz : 0 < left.size := by
          cases hs : left.size with
          | zero => exfalso; apply hemp; simp [Array.isEmpty, hs]
          | succ k => omega
        -- the number that is drawn
        obtain ⟨j, w', hj, hjlt, hw'⟩ : ∃ j w', (choose (.mapNext left.size)).run P w = .ok j w' ∧ j < left.size ∧ Desc w0 H0 M h H w' ∧ w'.heap = w.heap := by
          rw [run_choose]
          by_cases hfz : (Question.mapNext left.size).forced = true
          · exact ⟨0, w, by rw [if_pos hfz], hsz, d, rfl⟩
          · refine ⟨_, w.drew, by rw [if_neg hfz]; rfl, ?_, d.drew, rfl⟩
            simp only [Question.cut]
            exact Nat.mod_lt _ hsz
        obtain ⟨dw', hheap⟩ := hw'
        have hmem : ∀ e ∈ left, e ∈ es ∧ e.born ∉ seen.toList := by
          rw [← hleft]
          intro e he
          have := Array.mem_filter.1 he
          exact ⟨this.1, by simpa using this.2⟩
        obtain ⟨hjm, hns⟩ := hmem left[j] (Array.getElem_mem hjlt)
        obtain ⟨H2, hU, d2⟩ := dw'.upd (.mapIter (some m) c (seen.push left[j].born) c) hr hM
        refine step_main (s := .v (.tuple #[.bool true, left[j].key, left[j].val])) ?_ ⟨h, H2, trivial, LBle.refl h, d2, h2 left[j] (Array.mem_toList_iff.2 hjm) hns H2 hU⟩
        rw [run]
        have hcand : ((if left.isEmpty = true then #[none] else #[]) ++ (left ++ #[]).map some : Array (Option MapEntry)) = left.map some := by
          rw [if_neg hemp]; simp
        simp only [hcand, Array.size_map, Sem.run_bind, hj, Result.andThen_ok, Array.getElem?_map, Array.getElem?_eq_getElem hjlt, Option.map_some]
        have hrw : w'.heap[r]? = some (.mapIter (some m) c seen c) := by rw [hheap]; exact hr'
        simp only [Sem.run_bind, setObj_iter _ hrw (by intros; simp), Result.andThen_ok, Sem.run_pure]
        rfl

/-! ### one operation -/
theorem stop_entry (hf : Fr n l h a) (d : Desc w0 H0 M h H w) {x : Operand} (hop : o.op = .entry x)
    (hk : exStop P T w0.heap.size M (Desc w0 H0 M) (.entry x) l h H K) : StepC P w0 H0 M h o a w K .main := by
  simp only [exStop] at hk
  cases hx : ev l x with
  | none => rw [hx] at hk; exact hk.elim
  | some sx =>
    rw [hx] at hk
    split at hk <;> first | (exact hk.elim) | skip
    rename_i r heq
    cases heq
    have ex : a.eval x = .pointer (some ⟨r, 0, none⟩) := (ev_sound hf hx).1
    obtain ⟨m, since, seen, es, c, e, hr, hm, hb, he, hk⟩ := hk
    have hr' := d.sub _ _ hr
    have hm' := d.sub _ _ hm
    refine step_main (s := .v (.tuple #[e.key, e.val])) ?_ ⟨h, H, trivial, LBle.refl h, d, hk⟩
    unfold execOp
    simp only [hop, ex, Instr.entry, Sem.run_bind, getObj_iter hr' (by intros; simp), Result.andThen_ok, getObj_map hm', hb, he, bne_self_eq_false, Bool.false_eq_true, if_false, Sem.run_pure]
    rfl

theorem exStop_sound (hT : tabOk P T = true) (hf : Fr n l h a) (d : Desc w0 H0 M h H w) (hk : exStop P T w0.heap.size M (Desc w0 H0 M) o.op l h H K) :
    StepC P w0 H0 M h o a w K (clsT T o.op) := by
  cases hop : o.op <;> rw [hop] at hk
  case load t x => exact stop_load hT hf d hop hk
  case store t x y => exact stop_store hT hf d hop hk
  case box t x => exact stop_box hT hf d hop hk
  case alloc t => exact stop_alloc hT hf d hop hk
  case build t ps => exact stop_build hT hf d hop hk
  case buildSlice t m ps => exact stop_buildSlice hT hf d hop hk
  case makeSlice t x y => exact stop_makeSlice hT hf d hop hk
  case makeMap t r => exact stop_makeMap d hop hk
  case lookup t m x ok => exact stop_lookup hT hf d hop hk
  case mapUpdate t m x y => exact stop_mapUpdate hT hf d hop hk
  case slice t x lo hi mx => exact stop_slice hT hf d hop hk
  case indexAddr t x i => exact stop_indexAddr hT hf d hop hk
  case index t x i => exact stop_index hT hf d hop hk
  case binOp op t x y t2 => exact stop_binOp hT hf d hop hk
  case sliceToArrayPointer t x => exact stop_s2ap hT hf d hop hk
  case convert src dst x => exact stop_convert hT hf d hop hk
  case makeFunc fn fi ca => exact stop_makeFunc hf d hop hk
  case range t x => exact stop_range hT hf d hop hk
  case next x b => exact stop_next hf d hop hk
  case entry x => exact stop_entry hf d hop hk
  case call c =>
    cases hc : c.callee with
    | value f =>
      have hcls : clsT T (.call c) = .main := by simp only [clsT, hc]
      rw [hcls]
      exact stop_call hf d hop hc hk
    | invoke r m => simp only [exStop, hc] at hk
    | builtin b =>
      cases b <;> first | (simp only [exStop, hc] at hk; done) | skip
      case append =>
        have hcls : clsT T (.call c) = .main := by simp only [clsT, hc]
        rw [hcls]; exact stop_append hT hf d hop hc hk
      case copy =>
        have hcls : clsT T (.call c) = .main := by simp only [clsT, hc]
        rw [hcls]; exact stop_copy hT hf d hop hc hk
      case delete =>
        have hcls : clsT T (.call c) = .main := by simp only [clsT, hc]
        rw [hcls]; exact stop_delete hT hf d hop hc hk
      case clear =>
        have hcls : clsT T (.call c) = .main := by simp only [clsT, hc]
        rw [hcls]; exact stop_clear hT hf d hop hc hk
      case len => exact stop_lenMap hT hf d hop hc hk
  all_goals exact hk.elim

/-- what an operation leaves -/
def AfterL (n : Nat) (w0 : World) (H0 : HV) (M : Nat → Prop) (a' : Act) (w' : World) (K : Env → List LB → HV → Prop) : Prop :=
  ∃ l' h' H', Sat n (Desc w0 H0 M) l' h' H' a' w' ∧ K l' h' H'

theorem put_fr (hf : Fr n l h a) {h' : List LB} (hle : LBle h h') {s : SV} (hs : okSV h' s) {dst : Option Tmp} (hd : ∀ d, dst = some d → d < n) : Fr n (putD l dst s) h' (a.put dst s.val) := by
  cases dst with
  | none => exact ⟨hf.d, hf.sz, fun t s' hs' => ⟨(hf.kn t s' hs').1, hle s' (hf.kn t s' hs').2⟩⟩
  | some d =>
    have hlt := hd d rfl
    refine ⟨hf.d, by simpa [Act.put] using hf.sz, ?_⟩
    intro t s' hs'
    simp only [putD, look] at hs'
    have hsz := hf.sz
    cases hb : Nat.beq d t with
    | true =>
      rw [hb] at hs'
      have := Nat.eq_of_beq_eq_true hb
      subst this
      simp at hs'; subst hs'
      refine ⟨?_, hs⟩
      have h3 : d < a.tmps.size := Nat.lt_of_lt_of_le hlt hsz
      simp [Act.put, h3]
    | false =>
      rw [hb] at hs'
      have hne : d ≠ t := fun e => by rw [e] at hb; simp at hb
      obtain ⟨h1, h2⟩ := hf.kn t s' hs'
      refine ⟨?_, hle s' h2⟩
      rw [← h1]
      simp [Act.put, Array.getElem?_setIfInBounds_ne hne]

theorem skip_fr (hf : Fr n l h a) {dst : Option Tmp} (hd : ∀ d, dst = some d → d < n) : Fr n (putD l dst (.v undef)) h (a.put dst undef) :=
  put_fr hf (LBle.refl h) (s := .v undef) trivial hd

theorem putK_eq {l : Env} {d : Option Tmp} {s : SV} {K : Env → Prop} (h : putK l d s K) : K (putD l d s) := by
  cases d <;> exact h

theorem exOp_sound (hT : tabOk P T = true) (hd : ∀ d, o.dst = some d → d < n) {KL : Env → List LB → HV → Prop} (hs : Sat n (Desc w0 H0 M) l h H a w)
    (hk : exOp P T w0.heap.size M (Desc w0 H0 M) o l h H KL) (hne : ∀ op, o.op = op → True) :
    match clsT T o.op with
    | .free => ∃ v, (∀ w', (execOp a.eval o).run P w' = .ok (.value v) w') ∧ AfterL n w0 H0 M (a.put o.dst v) w KL
    | .read => ∃ v, (execOp a.eval o).run P w = .ok (.value v) w ∧ AfterL n w0 H0 M (a.put o.dst v) w KL
    | .main => o.wp P a w (fun a' w' => AfterL n w0 H0 M a' w' KL) (fun _ _ _ => False) := by
  unfold exOp at hk
  have conv : ∀ (w' : World) (s : SV), After1 w0 H0 M h w' (fun s h H => putK l o.dst s (fun l => KL l h H)) s → AfterL n w0 H0 M (a.put o.dst s.val) w' KL := by
    rintro w' s ⟨h', H', hok, hle, d', hK⟩
    exact ⟨_, h', H', ⟨put_fr hs.fr hle hok hd, d'⟩, putK_eq hK⟩
  have fin : ∀ c, StepC P w0 H0 M h o a w (fun s h H => putK l o.dst s (fun l => KL l h H)) c → (match c with
    | .free => ∃ v, (∀ w', (execOp a.eval o).run P w' = .ok (.value v) w') ∧ AfterL n w0 H0 M (a.put o.dst v) w KL
    | .read => ∃ v, (execOp a.eval o).run P w = .ok (.value v) w ∧ AfterL n w0 H0 M (a.put o.dst v) w KL
    | .main => o.wp P a w (fun a' w' => AfterL n w0 H0 M a' w' KL) (fun _ _ _ => False)) := by
    intro c hc
    cases c with
    | free => obtain ⟨s, hr, hA⟩ := hc; exact ⟨s.val, hr, conv w s hA⟩
    | read => obtain ⟨s, hr, hA⟩ := hc; exact ⟨s.val, hr, conv w s hA⟩
    | main => exact Oper.wp_mono (fun a' w' ⟨s, e, hA⟩ => by subst e; exact conv w' s hA) hc
  cases hfe : fev T l o.op with
  | some s =>
    rw [hfe] at hk
    obtain ⟨hr, hok⟩ := fev_sound hT hs.fr hfe
    exact fin _ (step_of_free _ (step_free hr hs.ds hok hk))
  | none =>
    rw [hfe] at hk
    exact fin _ (exStop_sound hT hs.fr hs.ds hk)

/-- the slots of a region's operations lie in the frame -/
def dstOk (n : Nat) (ops : List Oper) : Bool := ops.all fun o => match o.dst with | some d => Nat.blt d n | none => true

theorem dstOk_mem {n : Nat} {ops : List Oper} (h : dstOk n ops = true) {o : Oper} (ho : o ∈ ops) : ∀ d, o.dst = some d → d < n := by
  intro d hd
  have := List.all_eq_true.1 h o ho
  rw [hd] at this
  simpa [Nat.blt_eq] using this

theorem guard_sound {ops : Array Oper} (hf : Fr n l h a) {g : Nat} {d : Tmp} {b : Bool} (hg : guardOf ops l g = some (d, b)) :
    yielded ops a.tmps g = some b ∧ Fr n ((d, .v (.bool b)) :: l) h a := by
  unfold guardOf at hg
  rw [nth_eq] at hg
  cases ho : ops.toList[g]? with
  | none => rw [ho] at hg; cases hg
  | some o =>
    rw [ho] at hg; simp only at hg
    cases hd : o.dst with
    | none => rw [hd] at hg; cases hg
    | some d' =>
      rw [hd] at hg; simp only at hg
      cases hl : look l d' with
      | none => rw [hl] at hg; cases hg
      | some s =>
        rw [hl] at hg
        split at hg <;> first | (cases hg; done) | skip
        rename_i b' heq
        cases heq; cases hg
        have hk := hf.kn d _ hl
        have ho' : ops[g]? = some o := by rw [← Array.getElem?_toList]; exact ho
        have hv : a.tmps[d]? = some (.bool b) := by
          have h1 := hk.1
          simp only [SV.val, Array.getD_eq_getD_getElem?] at h1
          cases hq : a.tmps[d]? with
          | none => rw [hq] at h1; simp [undef] at h1
          | some q => rw [hq] at h1; simp at h1; rw [h1]
        refine ⟨?_, hf.d, hf.sz, ?_⟩
        · unfold yielded
          simp only [ho', Option.bind_some, hd, hv]
        · intro t s' hs'
          simp only [look] at hs'
          cases hb : Nat.beq d t with
          | true =>
            rw [hb] at hs'
            have := Nat.eq_of_beq_eq_true hb
            subst this
            simp at hs'; subst hs'
            exact ⟨hk.1, trivial⟩
          | false => rw [hb] at hs'; exact hf.kn t s' hs'

theorem vif_cases {b : Bool} {p q : Prop} (h : vif b p q) : (b = true ∧ p) ∨ (b = false ∧ q) := by
  cases b
  · exact .inr ⟨rfl, h⟩
  · exact .inl ⟨rfl, h⟩

/-- a region's operations in the order of the text -/
theorem exOps_sound (hT : tabOk P T = true) {ops : Array Oper} {KL : Env → List LB → HV → Prop} : ∀ (os : List Oper) (k : Nat), (∀ j, os[j]? = ops[k + j]?) → dstOk n os = true →
    ∀ (l : Env) (h : List LB) (H : HV) (a : Act) (w : World), Sat n (Desc w0 H0 M) l h H a w → exOps P T w0.heap.size M (Desc w0 H0 M) ops KL os l h H →
    CP P ops (fun _ => True) (fun i => match ops[i]? with | some o => clsT T o.op | none => .free) (fun a w => AfterL n w0 H0 M a w KL) (List.range' k os.length) a w
  | [], k, _, _, l, h, H, a, w, hs, hk => ⟨l, h, H, hs, hk⟩
  | o :: os, k, hj, hd, l, h, H, a, w, hs, hk => by
    have h0 : ops[k]? = some o := by simpa using (hj 0).symm
    have hd0 := dstOk_mem hd (List.mem_cons_self ..)
    have hdr : dstOk n os = true := by simp only [dstOk, List.all_cons, Bool.and_eq_true] at hd; exact hd.2
    have ih := exOps_sound hT (KL := KL) os (k + 1) (fun j => by have := hj (j + 1); simpa [Nat.add_assoc, Nat.add_comm 1 j] using this) hdr
    have ihA : ∀ a' w', AfterL n w0 H0 M a' w' (exOps P T w0.heap.size M (Desc w0 H0 M) ops KL os) →
        CP P ops (fun _ => True) (fun i => match ops[i]? with | some o => clsT T o.op | none => .free) (fun a w => AfterL n w0 H0 M a w KL) (List.range' (k + 1) os.length) a' w' := by
      rintro a' w' ⟨l', h', H', hs', hk'⟩
      exact ih l' h' H' a' w' hs' hk'
    have run : ∀ l, Sat n (Desc w0 H0 M) l h H a w → Region.wanted o (yielded ops a.tmps) = true → exOp P T w0.heap.size M (Desc w0 H0 M) o l h H (exOps P T w0.heap.size M (Desc w0 H0 M) ops KL os) →
        Out P ops (fun _ => True) (clsT T o.op) o a w (CP P ops (fun _ => True) (fun i => match ops[i]? with | some o => clsT T o.op | none => .free) (fun a w => AfterL n w0 H0 M a w KL) (List.range' (k + 1) os.length)) := by
      intro l hs hw hk
      have := exOp_sound hT hd0 hs hk (fun _ _ => trivial)
      unfold Out
      rw [if_pos hw]
      revert this
      cases clsT T o.op with
      | free => rintro ⟨v, hr, hA⟩; exact ⟨v, fun w' _ => hr w', ihA _ _ hA⟩
      | read => rintro ⟨v, hr, hA⟩; exact ⟨v, hr, ihA _ _ hA⟩
      | main => intro hm; exact Oper.wp_mono (fun a' w' hA => ⟨trivial, ihA _ _ hA⟩) hm
    have skip : ∀ l, Sat n (Desc w0 H0 M) l h H a w → ¬ Region.wanted o (yielded ops a.tmps) = true → putK l o.dst (.v undef) (fun l => exOps P T w0.heap.size M (Desc w0 H0 M) ops KL os l h H) →
        Out P ops (fun _ => True) (clsT T o.op) o a w (CP P ops (fun _ => True) (fun i => match ops[i]? with | some o => clsT T o.op | none => .free) (fun a w => AfterL n w0 H0 M a w KL) (List.range' (k + 1) os.length)) := by
      intro l hs hw hk
      unfold Out
      rw [if_neg hw]
      exact ih _ h H _ w ⟨skip_fr hs.fr hd0, hs.ds⟩ (putK_eq hk)
    simp only [List.length_cons, List.range'_succ, CP, h0]
    simp only [exOps] at hk
    split at hk
    · rename_i hg
      exact run l hs (by simp [Region.wanted, hg]) hk
    · rename_i g want hg
      split at hk <;> first | (exact hk.elim) | skip
      rename_i d b hgo
      obtain ⟨hy, hf'⟩ := guard_sound hs.fr hgo
      have hw : Region.wanted o (yielded ops a.tmps) = (b == want) := by simp [Region.wanted, hg, hy]
      cases want with
      | true =>
        rcases vif_cases hk with ⟨rfl, hk⟩ | ⟨rfl, hk⟩
        · exact run _ ⟨hf', hs.ds⟩ (by rw [hw]; rfl) hk
        · exact skip _ ⟨hf', hs.ds⟩ (by rw [hw]; simp) hk
      | false =>
        rcases vif_cases hk with ⟨rfl, hk⟩ | ⟨rfl, hk⟩
        · exact skip _ ⟨hf', hs.ds⟩ (by rw [hw]; simp) hk
        · exact run _ ⟨hf', hs.ds⟩ (by rw [hw]; rfl) hk
end
end Go.Eng
