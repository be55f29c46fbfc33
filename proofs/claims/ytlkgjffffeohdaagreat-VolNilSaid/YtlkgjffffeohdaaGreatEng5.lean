/- The engine is sound, part four: one operation. -/
import Derived.Test.YtlkgjffffeohdaaGreatEng4
import Derived.Laws.AppendOwn
import Derived.Lib.ConvBytes
set_option linter.unusedVariables false
set_option linter.unusedSimpArgs false
namespace Go.Eng
open Go

/-- the class of an operation: free (whatever the world), read, main -/
def clsT (T : Tab) (o : Op) : Cls :=
  match o with
  | .move _ | .assign _ | .pick .. | .nilCheck _ | .binOp .. | .unOp .. | .fieldAddr .. | .field .. | .extract .. | .build .. | .slice .. | .indexAddr .. | .index ..
  | .sliceToArrayPointer .. | .makeFunc .. => .free
  | .load .. | .lookup .. => .read
  | .convert src dst _ => match lookT T src with
    | some ti => match ti.k with
      | .slc _ => .read
      | .str => match lookT T dst with
        | some tj => match tj.k with
          | .slc _ => .main
          | _ => .free
        | none => .free
      | _ => .free
    | none => .free
  | .call c => match c.callee with
    | .builtin .len => match c.argTypes with
      | ⟨t :: _⟩ => match lookT T t with
        | some ti => match ti.k with
          | .map _ _ => .read
          | _ => .free
        | none => .free
      | _ => .free
    | .builtin .min => .free
    | .builtin .max => .free
    | _ => .main
  | _ => .main

section
variable {P : Program} {T : Tab} {n : Nat} {w0 : World} {H0 : HV} {M : Nat → Prop} {l : Env} {h : List LB} {H : HV} {a : Act} {w : World} {o : Oper} {K : KS}

def After1 (w0 : World) (H0 : HV) (M : Nat → Prop) (h : List LB) (w' : World) (K : KS) (s : SV) : Prop :=
  ∃ h' H', okSV h' s ∧ LBle h h' ∧ Desc w0 H0 M h' H' w' ∧ K s h' H'

def StepC (P : Program) (w0 : World) (H0 : HV) (M : Nat → Prop) (h : List LB) (o : Oper) (a : Act) (w : World) (K : KS) : Cls → Prop
  | .free => ∃ s, (∀ w', (execOp a.eval o).run P w' = .ok (.value s.val) w') ∧ After1 w0 H0 M h w K s
  | .read => ∃ s, (execOp a.eval o).run P w = .ok (.value s.val) w ∧ After1 w0 H0 M h w K s
  | .main => o.wp P a w (fun a' w' => ∃ s, a' = a.put o.dst s.val ∧ After1 w0 H0 M h w' K s) (fun _ _ _ => False)

theorem step_main {s : SV} {w' : World} (hr : (execOp a.eval o).run P w = .ok (.value s.val) w') (ha : After1 w0 H0 M h w' K s) : StepC P w0 H0 M h o a w K .main := by
  show o.wp P a w _ _
  unfold Oper.wp
  rw [hr]
  exact ⟨s, rfl, ha⟩

theorem step_skip {w' : World} (hr : (execOp a.eval o).run P w = .ok .skip w') (ha : After1 w0 H0 M h w' K (.v undef)) : StepC P w0 H0 M h o a w K .main := by
  show o.wp P a w _ _
  unfold Oper.wp
  rw [hr]
  exact ⟨.v undef, rfl, ha⟩

theorem step_of_free (c : Cls) (hs : StepC P w0 H0 M h o a w K .free) : StepC P w0 H0 M h o a w K c := by
  obtain ⟨s, hr, ha⟩ := hs
  cases c with
  | free => exact ⟨s, hr, ha⟩
  | read => exact ⟨s, hr w, ha⟩
  | main => exact step_main (hr w) ha

theorem step_of_read {c : Cls} (hc : c ≠ .free) (hs : StepC P w0 H0 M h o a w K .read) : StepC P w0 H0 M h o a w K c := by
  obtain ⟨s, hr, ha⟩ := hs
  cases c with
  | free => exact (hc rfl).elim
  | read => exact ⟨s, hr, ha⟩
  | main => exact step_main hr ha

theorem step_free {s : SV} (hr : ∀ w', (execOp a.eval o).run P w' = .ok (.value s.val) w') (d : Desc w0 H0 M h H w) (hs : okSV h s) (hK : K s h H) : StepC P w0 H0 M h o a w K .free :=
  ⟨s, hr, h, H, hs, LBle.refl h, d, hK⟩

theorem step_freeV {v : Value} (hr : ∀ w', (execOp a.eval o).run P w' = .ok (.value v) w') (d : Desc w0 H0 M h H w) (hK : K (.v v) h H) : StepC P w0 H0 M h o a w K .free :=
  step_free (s := .v v) hr d trivial hK

theorem step_readV {v : Value} (hr : (execOp a.eval o).run P w = .ok (.value v) w) (d : Desc w0 H0 M h H w) (hK : K (.v v) h H) : StepC P w0 H0 M h o a w K .read :=
  ⟨.v v, hr, h, H, trivial, LBle.refl h, d, hK⟩

theorem newExt_sound (d : Desc w0 H0 M h H w) {ob : Obj} {KK : Nat → HV → Prop} (hn : newExt w0.heap.size ob H KK) :
    ∃ H', Desc w0 H0 M h H' (w.alloc ob) ∧ KK w.heap.size H' := by
  obtain ⟨h1, h2, H', hE, d'⟩ := d.alloc_ext ob
  exact ⟨H', d', hn _ H' h1 h2 hE⟩

theorem extLoad_sound (d : Desc w0 H0 M h H w) {t : Nat} {ti : TI} (hT : TyOk P t ti) {b off : Nat} {KK : SV → Prop} (hk : extLoad H ti b off KK) :
    ∃ v, (loadVar t ⟨b, off, none⟩).run P w = .ok v w ∧ KK (.v v) := by
  unfold extLoad at hk
  split at hk
  · rename_i ha
    obtain ⟨v, ⟨arr, ty, fr, hb, hv⟩, hK⟩ := hk
    exact ⟨v, (run_loadVar hT (d.sub _ _ hb)).1 ha v hv, hK⟩
  · rename_i ha
    obtain ⟨vs, ⟨arr, ty, fr, hb, hl, rfl⟩, hK⟩ := hk
    exact ⟨_, (run_loadVar hT (d.sub _ _ hb)).2 ha hl, hK⟩

theorem extStore_sound (d : Desc w0 H0 M h H w) {t : Nat} {ti : TI} (hT : TyOk P t ti) {b off : Nat} {v : Value} {KK : HV → Prop} (hs : (cellsOf v).length = ti.sz)
    (hk : extStore w0.heap.size M H b off (cellsOf v) KK) : ∃ w' H', (storeVar t ⟨b, off, none⟩ v).run P w = .ok () w' ∧ Desc w0 H0 M h H' w' ∧ KK H' := by
  obtain ⟨arr, ty, fr, hb, hl, hf, hM, h1, hK⟩ := hk
  obtain ⟨H', hU, d'⟩ := d.upd (.cells (setMany arr off (cellsOf v)) ty fr) hb hM
  exact ⟨_, H', run_storeVar hT (d.sub _ _ hb) v hs hl hf h1, d', hK H' hU⟩

theorem exec_load {t : TypeId} {x : Operand} (hop : o.op = .load t x) {b off : Nat} (hx : a.eval x = .pointer (some ⟨b, off, none⟩)) {v : Value} (hr : (loadVar t ⟨b, off, none⟩).run P w = .ok v w) :
    (execOp a.eval o).run P w = .ok (.value v) w := by
  unfold execOp
  simp only [hop, hx, Instr.loadAt, Instr.sureAddr, Sem.run_bind, Sem.run_pure, Result.andThen_ok, hr]

theorem exec_store {t : TypeId} {x y : Operand} (hop : o.op = .store t x y) {b off : Nat} (hx : a.eval x = .pointer (some ⟨b, off, none⟩)) {w' : World} {v : Value} (hy : a.eval y = v)
    (hr : (storeVar t ⟨b, off, none⟩ v).run P w = .ok () w') : (execOp a.eval o).run P w = .ok .skip w' := by
  unfold execOp
  simp only [hop, hx, hy, Instr.storeAt, Instr.sureAddr, Sem.run_bind, Sem.run_pure, Result.andThen_ok, hr]

theorem allOne_mem : ∀ {vs : List Value}, allOne vs = true → ∀ v ∈ vs, v.oneCell' = true
  | [], _, v, hv => by cases hv
  | u :: vs, h, v, hv => by
    have : u.oneCell' = true ∧ allOne vs = true := by
      cases u <;> simp [allOne] at h <;> exact ⟨rfl, h⟩
    rcases List.mem_cons.1 hv with rfl | hm
    · exact this.1
    · exact allOne_mem this.2 v hm

theorem stop_load (hT : tabOk P T = true) (hf : Fr n l h a) (d : Desc w0 H0 M h H w) {t : TypeId} {x : Operand} (hop : o.op = .load t x)
    (hk : exStop P T w0.heap.size M (Desc w0 H0 M) (.load t x) l h H K) : StepC P w0 H0 M h o a w K .read := by
  simp only [exStop] at hk
  cases ht : lookT T t with
  | none => rw [ht] at hk; exact hk.elim
  | some ti =>
    rw [ht] at hk; simp only at hk
    have hty := tabOk_look hT ht
    cases hx : ev l x with
    | none => rw [hx] at hk; exact hk.elim
    | some sx =>
      rw [hx] at hk
      obtain ⟨ex, okx⟩ := ev_sound hf hx
      split at hk
      · rename_i k r off heq
        cases heq
        split at hk
        · rename_i r' ty cs hnth
          rcases okx with hd | ⟨ty', cs', hk'⟩
          · rw [hnth] at hd; cases hd
          · rw [hnth] at hk'; cases hk'
            obtain ⟨hb, _, _⟩ := d.loc _ _ _ _ hnth
            split at hk
            · rename_i ha
              split at hk <;> first | (exact hk.elim) | skip
              rename_i s hs
              rw [nth_eq] at hs
              have hv : (cs.map SV.val).toArray[off]? = some s.val := by simp [hs]
              exact ⟨s, exec_load hop ex ((run_loadVar hty hb).1 ha _ hv), h, H, d.okc _ _ _ _ hnth s (List.mem_of_getElem? hs), LBle.refl h, d, hk⟩
            · rename_i ha
              split at hk <;> first | (exact hk.elim) | skip
              rename_i vs hvs
              obtain ⟨e, hl⟩ := takeV_eq _ _ _ _ hvs
              have hle : off + ti.sz ≤ (cs.map SV.val).toArray.size ∨ ti.sz = 0 := by
                rw [e] at hl
                simp only [List.length_take, List.length_drop] at hl
                simp only [List.size_toArray, List.length_map] at hl ⊢
                omega
              have hv : (loadVar t ⟨r, off, none⟩).run P w = .ok (.agg ⟨vs⟩) w := by
                rcases hle with hle | h0
                · rw [(run_loadVar hty hb).2 ha hle]
                  congr 2
                  apply Array.ext'
                  rw [e, Array.toList_extract]
                  simp only [List.extract_eq_drop_take']
                  rw [List.drop_take, show off + ti.sz - off = ti.sz from by omega]
                · have : vs = [] := List.length_eq_zero_iff.1 (by omega)
                  subst this
                  unfold loadVar
                  simp only [Sem.run_bind, hty.run_agg w, Result.andThen_ok, ha, if_true, hty.run_size w, h0]
                  rfl
              exact step_readV (exec_load hop ex hv) d hk
        · obtain ⟨v, hr, hK⟩ := extLoad_sound d hty hk
          exact step_readV (exec_load hop ex hr) d hK
      · rename_i b off heq
        cases heq
        obtain ⟨v, hr, hK⟩ := extLoad_sound d hty hk
        exact step_readV (exec_load hop ex hr) d hK
      · exact hk.elim

theorem own_store (d : Desc w0 H0 M h H w) {t : Nat} {ti : TI} (hT : TyOk P t ti) {k r ty off : Nat} {cs ss : List SV} (hnth : nth h k = some (.mk r ty cs)) (v : Value) (hv : cellsOf v = ss.map SV.val)
    (hs : ss.length = ti.sz) (hl : off + ss.length ≤ cs.length) (h1 : ∀ x ∈ ss.map SV.val, x.oneCell' = true) (hok : ∀ s ∈ ss, okSV h s) :
    ∃ w', (storeVar t ⟨r, off, none⟩ v).run P w = .ok () w' ∧ Desc w0 H0 M (setNth (.mk r ty (setFrom cs off ss)) h k) H w' := by
  obtain ⟨hb, _, _⟩ := d.loc _ _ _ _ hnth
  have hok' : ∀ s ∈ setFrom cs off ss, okSV h s := by
    intro s hs'
    obtain ⟨i, hi⟩ := List.mem_iff_getElem?.1 hs'
    rw [setFrom_get cs off ss hl] at hi
    split at hi
    · exact hok s (List.mem_of_getElem? hi)
    · exact d.okc _ _ _ _ hnth s (List.mem_of_getElem? hi)
  refine ⟨_, run_storeVar hT hb v (by rw [hv]; simpa using hs) (by rw [hv]; simpa using hl) (by right; left; exact Nat.zero_le _) (by rw [hv]; exact h1), ?_⟩
  have := d.own hnth (setFrom cs off ss) hok'
  rw [setMany_setFrom cs off ss hl] at this
  rw [hv]
  exact this

theorem stop_store (hT : tabOk P T = true) (hf : Fr n l h a) (d : Desc w0 H0 M h H w) {t : TypeId} {x y : Operand} (hop : o.op = .store t x y)
    (hk : exStop P T w0.heap.size M (Desc w0 H0 M) (.store t x y) l h H K) : StepC P w0 H0 M h o a w K .main := by
  simp only [exStop] at hk
  cases ht : lookT T t with
  | none => rw [ht] at hk; exact hk.elim
  | some ti =>
    rw [ht] at hk; simp only at hk
    have hty := tabOk_look hT ht
    cases hx : ev l x with
    | none => rw [hx] at hk; exact hk.elim
    | some sx =>
      rw [hx] at hk
      obtain ⟨ex, okx⟩ := ev_sound hf hx
      have ext : ∀ (b off : Nat) (s : SV), a.eval x = .pointer (some ⟨b, off, none⟩) → ev l y = some s →
          expo s h H (fun v h H => (cellsOf v).length = ti.sz ∧ extStore w0.heap.size M H b off (cellsOf v) (fun H => K (.v undef) h H)) → StepC P w0 H0 M h o a w K .main := by
        intro b off s ex hy hk
        obtain ⟨ey, oky⟩ := ev_sound hf hy
        obtain ⟨h1, H1, l1, d1, hs, hk⟩ := expo_sound d oky hk
        obtain ⟨w', H', hr, d', hK⟩ := extStore_sound d1 hty hs hk
        exact step_skip (exec_store hop ex ey hr) ⟨h1, H', trivial, l1, d', hK⟩
      split at hk
      · rename_i k r off heq
        cases heq
        split at hk
        · rename_i r' ty cs hnth
          rcases okx with hd | ⟨ty', cs', hk'⟩
          · rw [hnth] at hd; cases hd
          · rw [hnth] at hk'; cases hk'
            cases hy : ev l y with
            | none => rw [hy] at hk; exact hk.elim
            | some sy =>
              rw [hy] at hk
              obtain ⟨ey, oky⟩ := ev_sound hf hy
              split at hk
              · rename_i vs heq
                cases heq
                split at hk <;> first | (exact hk.elim) | skip
                rename_i hb1
                split at hk <;> first | (exact hk.elim) | skip
                rename_i hb2
                split at hk <;> first | (exact hk.elim) | skip
                rename_i hb3
                have hK := forceL_eq _ (forceL_eq _ (svs_sound hk))
                have e1 := Nat.eq_of_beq_eq_true hb1
                have e2 := Nat.le_of_ble_eq_true hb2
                rw [len_eq] at e1 e2
                rw [len_eq] at e2
                obtain ⟨w', hr, d'⟩ := own_store d hty hnth (.agg ⟨vs⟩) (ss := vs.map SV.v) (off := off) (by rw [map_val_v]; rfl) (by simpa using e1) (by simpa using e2)
                  (by rw [map_val_v]; exact allOne_mem hb3) (by intro s hs; obtain ⟨v, _, rfl⟩ := List.mem_map.1 hs; trivial)
                exact step_skip (exec_store hop ex ey hr) ⟨_, H, trivial, LBle_set hnth, d', hK⟩
              · exact hk.elim
              · rename_i s hna hnt heq
                cases heq
                split at hk <;> first | (exact hk.elim) | skip
                rename_i hb1
                split at hk <;> first | (exact hk.elim) | skip
                rename_i hb2
                have e1 := Nat.eq_of_beq_eq_true hb1
                have e2 := Nat.le_of_ble_eq_true hb2
                rw [len_eq] at e2
                have hone : sy.val.oneCell' = true ∧ cellsOf sy.val = [sy.val] := by
                  cases sy with
                  | p k' r' o' => exact ⟨rfl, rfl⟩
                  | v v => cases v <;> first | exact ⟨rfl, rfl⟩ | skip
                           · rename_i cs0; obtain ⟨cs0⟩ := cs0; exact (hna _ rfl).elim
                           · exact (hnt _ rfl).elim
                obtain ⟨w', hr, d'⟩ := own_store d hty hnth sy.val (ss := [sy]) (off := off) (by simpa using hone.2) (by simpa using e1) (by simpa using e2)
                  (by intro v hv; simp at hv; subst hv; exact hone.1) (by intro s hs; simp at hs; subst hs; exact oky)
                exact step_skip (exec_store hop ex ey hr) ⟨_, H, trivial, LBle_set hnth, d', forceL_eq _ (forceL_eq _ hk)⟩
              · exact hk.elim
        · cases hy : ev l y with
          | none => rw [hy] at hk; exact hk.elim
          | some sy => rw [hy] at hk; exact ext r off sy ex hy hk
      · rename_i b off heq
        cases heq
        cases hy : ev l y with
        | none => rw [hy] at hk; exact hk.elim
        | some sy => rw [hy] at hk; exact ext b off sy ex hy hk
      · exact hk.elim

theorem newOwn_sound (d : Desc w0 H0 M h H w) {t : Nat} {cs : List SV} (hcs : ∀ s ∈ cs, okSV h s) (hn : newOwn w0.heap.size t cs h H K) :
    After1 w0 H0 M h (w.alloc (.cells (cs.map SV.val).toArray t (0, 0))) K (.p (len h) w.heap.size 0) := by
  obtain ⟨h1, h2, d'⟩ := d.alloc_own t cs hcs
  refine ⟨_, H, ?_, LBle_snoc h _, d', forceN_eq _ (forceL_eq _ (hn _ h1 h2))⟩
  exact .inr ⟨t, cs, by rw [nth_snoc, len_eq, if_pos rfl]⟩

theorem stop_box (hT : tabOk P T = true) (hf : Fr n l h a) (d : Desc w0 H0 M h H w) {t : TypeId} {x : Operand} (hop : o.op = .box t x)
    (hk : exStop P T w0.heap.size M (Desc w0 H0 M) (.box t x) l h H K) : StepC P w0 H0 M h o a w K .main := by
  simp only [exStop] at hk
  cases ht : lookT T t with
  | none => rw [ht] at hk; exact hk.elim
  | some ti =>
    rw [ht] at hk; simp only at hk
    cases hx : ev l x with
    | none => rw [hx] at hk; split at hk <;> exact hk.elim
    | some sx =>
      rw [hx] at hk
      obtain ⟨ex, okx⟩ := ev_sound hf hx
      have run : ∀ v, a.eval x = v → (execOp a.eval o).run P w = .ok (.value (.pointer (some ⟨w.heap.size, 0, none⟩))) (w.alloc (.cells v.cells t (0, 0))) := by
        intro v hv
        unfold execOp
        simp only [hop, hv, Instr.box, newVar, newRow, Sem.run_bind, run_newObj, Result.andThen_ok, Sem.run_pure]
        rfl
      split at hk
      · split at hk
        · rename_i vs heq
          cases heq
          have hK := svs_sound hk
          have := newOwn_sound d (by intro s hs; obtain ⟨v, _, rfl⟩ := List.mem_map.1 hs; trivial) hK
          rw [map_val_v] at this
          exact step_main (s := .p (len h) w.heap.size 0) (run _ ex) this
        · rename_i s hna heq
          cases heq
          have := newOwn_sound d (cs := [sx]) (by intro s hs; simp at hs; subst hs; exact okx) hk
          refine step_main (s := .p (len h) w.heap.size 0) (run _ ex) ?_
          have hc : sx.val.cells = ([sx].map SV.val).toArray := by
            cases sx with
            | p k' r' o' => rfl
            | v v => cases v <;> first | rfl | skip
                     rename_i cs0; obtain ⟨cs0⟩ := cs0; exact (hna _ rfl).elim
          rw [hc]; exact this
        · exact hk.elim
      · obtain ⟨h1, H1, l1, d1, hk⟩ := expo_sound d okx hk
        obtain ⟨H', d', hK⟩ := newExt_sound d1 hk
        exact step_main (s := .v (.pointer (some ⟨w.heap.size, 0, none⟩))) (run _ ex) ⟨h1, H', trivial, l1, d', hK⟩

theorem stop_alloc (hT : tabOk P T = true) (hf : Fr n l h a) (d : Desc w0 H0 M h H w) {t : TypeId} (hop : o.op = .alloc t)
    (hk : exStop P T w0.heap.size M (Desc w0 H0 M) (.alloc t) l h H K) : StepC P w0 H0 M h o a w K .main := by
  simp only [exStop] at hk
  cases ht : lookT T t with
  | none => rw [ht] at hk; exact hk.elim
  | some ti =>
    rw [ht] at hk; simp only at hk
    obtain ⟨z, hz, hzc, _, _⟩ := (tabOk_look hT ht).run_zero w
    have run : (execOp a.eval o).run P w = .ok (.value (.pointer (some ⟨w.heap.size, 0, none⟩))) (w.alloc (.cells ti.z.toArray t (0, 0))) := by
      unfold execOp
      simp only [hop, Instr.alloc, Sem.run_bind, hz, Result.andThen_ok, newVar, newRow, run_newObj, Sem.run_pure]
      rw [← hzc]
      rfl
    split at hk
    · have hK := svs_sound hk
      have := newOwn_sound d (by intro s hs; obtain ⟨v, _, rfl⟩ := List.mem_map.1 hs; trivial) hK
      rw [map_val_v] at this
      exact step_main (s := .p (len h) w.heap.size 0) run this
    · obtain ⟨H', d', hK⟩ := newExt_sound d hk
      exact step_main (s := .v (.pointer (some ⟨w.heap.size, 0, none⟩))) run ⟨h, H', trivial, LBle.refl h, d', hK⟩
end
end Go.Eng
