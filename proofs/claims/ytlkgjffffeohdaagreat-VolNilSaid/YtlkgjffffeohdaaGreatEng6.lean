/- The engine is sound, part five: the other operations. -/
import Derived.Test.YtlkgjffffeohdaaGreatEng5
set_option linter.unusedVariables false
set_option linter.unusedSimpArgs false
namespace Go.Eng
open Go

theorem zero_map (z : List Value) : ∀ m : Nat, ((List.range (m * z.length)).map fun i => z.toArray[i % z.length]!) = zeroL m z
  | 0 => by simp [zeroL]
  | m + 1 => by
    have ih := zero_map z m
    unfold zeroL at ih ⊢
    rw [Nat.succ_mul, List.range_add, List.map_append, ih]
    have : (List.map (fun i => z.toArray[i % z.length]!) (List.map (fun x => m * z.length + x) (List.range z.length))) = z := by
      rw [List.map_map]
      apply List.ext_getElem?
      intro i
      rw [List.getElem?_map]
      by_cases hi : i < z.length
      · simp [hi, Nat.mul_add_mod_self_right, Nat.mod_eq_of_lt hi]
      · simp [hi, List.getElem?_eq_none (Nat.le_of_not_lt hi)]
    rw [this, List.replicate_succ']
    simp

theorem zeroCells_eq (z : Array Value) (m : Nat) : (Builtin.zeroCells z m).toList = zeroL m z.toList := by
  rw [← zero_map]
  obtain ⟨z⟩ := z
  simp [Builtin.zeroCells]

theorem madeCells_eq (z : Array Value) (m : Nat) : (madeCells z (m * z.size)).toList = zeroL m z.toList := by
  rw [← zero_map]
  obtain ⟨z⟩ := z
  simp [madeCells]

section
variable {P : Program} {T : Tab} {n : Nat} {w0 : World} {H0 : HV} {M : Nat → Prop} {l : Env} {h : List LB} {H : HV} {a : Act} {w : World} {o : Oper} {K : KS}

theorem fillL_sound (place : Nat → Option (Nat × Nat)) : ∀ (ps : List (Nat × Value)) (cells cs : List Value), fillL place cells ps = some cs → Instr.fill place cells.toArray ps = some cs.toArray
  | [], cells, cs, he => by simp [fillL] at he; subst he; rfl
  | (i, v) :: rest, cells, cs, he => by
    simp only [fillL] at he
    cases hp : place i with
    | none => rw [hp] at he; cases he
    | some q =>
      obtain ⟨off, sz⟩ := q
      rw [hp] at he
      simp only at he
      have fold : ∀ (vs : List Value) (j : Nat) (arr : Array Value), (vs.zipIdx j).foldl (fun cs (x : Value × Nat) => cs.setIfInBounds (off + x.2) x.1) arr = setMany arr (off + j) vs := by
        intro vs
        induction vs with
        | nil => intro j arr; rfl
        | cons v vs ih => intro j arr; simp only [List.zipIdx_cons, List.foldl_cons, setMany]; rw [ih]; rfl
      have lay : ∀ (vs : List Value), off + vs.length ≤ cells.length → setMany cells.toArray off vs = (setFrom cells off vs).toArray := by
        intro vs hl
        apply Array.ext_getElem?
        intro j
        rw [setMany_get _ _ _ (by simpa using hl)]
        simp only [List.getElem?_toArray]
        rw [setFrom_get _ _ _ hl]
      have step : ∀ (vs : List Value), v.cells = vs.toArray → vs.length = sz → off + vs.length ≤ cells.length → fillL place (setFrom cells off vs) rest = some cs →
          Instr.fill place cells.toArray ((i, v) :: rest) = some cs.toArray := by
        intro vs hv hs hl hr
        have ih := fillL_sound place rest _ _ hr
        have hnot : (v.cells.size ≠ sz || off + v.cells.size > cells.toArray.size) = false := by
          simp only [hv, List.size_toArray, hs, ne_eq, not_true_eq_false, decide_false, Bool.false_or, decide_eq_false_iff_not]
          omega
        have hfold : (v.cells.zipIdx.foldl (fun cs (x : Value × Nat) => cs.setIfInBounds (off + x.2) x.1) cells.toArray) = (setFrom cells off vs).toArray := by
          rw [hv, ← Array.foldl_toList, Array.toList_zipIdx, fold, Nat.add_zero, lay _ hl]
        unfold Instr.fill
        simp only [hp, hnot, Bool.false_eq_true, if_false]
        rw [← ih, ← hfold]
      split at he
      · rename_i vs
        split at he <;> first | (cases he; done) | skip
        rename_i h1
        split at he <;> first | (cases he; done) | skip
        rename_i h2
        have e1 := Nat.eq_of_beq_eq_true h1
        have e2 := Nat.le_of_ble_eq_true h2
        rw [len_eq] at e1 e2
        rw [len_eq] at e2
        exact step vs rfl e1 e2 he
      · rename_i hna
        split at he <;> first | (cases he; done) | skip
        rename_i h1
        split at he <;> first | (cases he; done) | skip
        rename_i h2
        have e1 := Nat.eq_of_beq_eq_true h1
        have e2 := Nat.le_of_ble_eq_true h2
        rw [len_eq] at e2
        refine step [v] ?_ e1 e2 he
        cases v <;> first | rfl | skip
        rename_i cs0; obtain ⟨cs0⟩ := cs0; exact (hna _ rfl).elim

theorem zip_parts (ps : List (Nat × Operand)) (f : Operand → Value) (vs : List Value) (hv : (ps.map (·.2)).map f = vs) :
    (ps.map (·.1)).zip vs = ps.map fun (i, x) => (i, f x) := by
  subst hv
  induction ps with
  | nil => rfl
  | cons p ps ih => simp only [List.map_cons, List.zip_cons_cons, ih]

theorem mapM_places (P : Program) (w : World) : ∀ (fs : List Field) (xs : List (Nat × Nat × Bool)), fieldsAre P fs xs = true →
    (fs.mapM (fun f => do pure (f.offset, ← sizeOf f.type)) : Sem (List (Nat × Nat))).run P w = .ok (xs.map fun (o, s, _) => (o, s)) w
  | [], [], _ => rfl
  | f :: fs, (o, s, ag) :: xs, hx => by
    simp only [fieldsAre, Bool.and_eq_true, beq_iff_eq] at hx
    obtain ⟨⟨⟨⟨h1, h2⟩, h3⟩, h5⟩, h4⟩ := hx
    have hs : (sizeOf f.type).run P w = .ok s w := by
      split at h2
      · rename_i inf hi
        simp at h2
        simp [sizeOf, typeInfo, hi, h2]
      · cases h2
    simp only [List.mapM_cons, Sem.run_bind, hs, Result.andThen_ok, Sem.run_pure, mapM_places P w fs xs h4, h1, List.map_cons]
  | [], _ :: _, hx => by cases hx
  | _ :: _, [], hx => by cases hx

theorem stop_build (hT : tabOk P T = true) (hf : Fr n l h a) (d : Desc w0 H0 M h H w) {t : TypeId} {parts : Array (Nat × Operand)} (hop : o.op = .build t parts)
    (hk : exStop P T w0.heap.size M (Desc w0 H0 M) (.build t parts) l h H K) : StepC P w0 H0 M h o a w K .free := by
  simp only [exStop] at hk
  cases ht : lookT T t with
  | none => rw [ht] at hk; exact hk.elim
  | some ti =>
    rw [ht] at hk; simp only at hk
    have hty := tabOk_look hT ht
    cases hes : evs l (parts.toList.map (·.2)) with
    | none => rw [hes] at hk; exact hk.elim
    | some ss =>
      rw [hes] at hk; simp only at hk
      obtain ⟨ev_, oks⟩ := evs_sound hf hes
      obtain ⟨h1, H1, l1, d1, hk⟩ := expos_sound ss d oks hk
      have hparts : (parts.map fun (i, x) => (i, a.eval x)).toList = (parts.toList.map (·.1)).zip (ss.map SV.val) := by
        rw [zip_parts parts.toList a.eval _ ev_]
        simp
      have fin : ∀ (cs : List Value), (∀ w', (Instr.build t (parts.map fun (i, x) => (i, a.eval x))).run P w' = .ok (.agg cs.toArray) w') → K (.v (.agg ⟨cs⟩)) h1 H1 → StepC P w0 H0 M h o a w K .free := by
        intro cs hr hK
        refine ⟨.v (.agg ⟨cs⟩), fun w' => ?_, h1, H1, trivial, l1, d1, hK⟩
        unfold execOp
        simp only [hop, Sem.run_bind, hr w', Result.andThen_ok, Sem.run_pure]
        rfl
      split at hk
      · rename_i fs hk0
        split at hk <;> first | (exact hk.elim) | skip
        rename_i cs hcs
        obtain ⟨fl, hu, hfl⟩ := hty.fields hk0
        refine fin cs (fun w' => ?_) (forceL_eq _ hk)
        obtain ⟨z, hz, hzc, _, _⟩ := hty.run_zero w'
        have hpl := mapM_places P w' fl.toList fs hfl
        have hpl' : (fl.mapM (fun f => do pure (f.offset, ← sizeOf f.type)) : Sem (Array (Nat × Nat))).run P w' = .ok (fs.map fun (o, s, _) => (o, s)).toArray w' := by
          rw [Array.mapM_eq_mapM_toList, Sem.run_map, hpl]
          rfl
        unfold Instr.build
        simp only [Sem.run_bind, hz, Result.andThen_ok, run_underlying hu, hpl', hparts]
        have hplace : placeS fs = (fun x => (fs.map fun (o, s, _) => (o, s)).toArray[x]?) := by
          funext i
          unfold placeS
          rw [nth_eq]
          simp only [List.getElem?_toArray, List.getElem?_map]
          cases fs[i]? <;> rfl
        have := fillL_sound _ _ _ _ hcs
        rw [hplace, ← hzc] at this
        simp only [Array.toArray_toList] at this
        rw [this]
        rfl
      · rename_i m e hk0
        unfold sizeT at hk
        cases he : lookT T e with
        | none => rw [he] at hk; exact hk.elim
        | some te =>
          rw [he] at hk; simp only at hk
          split at hk <;> first | (exact hk.elim) | skip
          rename_i cs hcs
          refine fin cs (fun w' => ?_) (forceL_eq _ hk)
          obtain ⟨z, hz, hzc, _, _⟩ := hty.run_zero w'
          unfold Instr.build
          simp only [Sem.run_bind, hz, Result.andThen_ok, run_underlying (hty.arr hk0), (tabOk_look hT he).run_size w', hparts]
          have := fillL_sound _ _ _ _ hcs
          rw [← hzc] at this
          simp only [Array.toArray_toList] at this
          have hp : placeA te.sz = fun i => some (i * te.sz, te.sz) := rfl
          rw [hp] at this
          rw [this]
          rfl
      · exact hk.elim

theorem setFrom_all {α : Type} : ∀ (l vs : List α), vs.length = l.length → setFrom l 0 vs = vs
  | [], [], _ => rfl
  | [], v :: vs, h => by simp at h
  | s :: l, [], h => by simp at h
  | s :: l, v :: vs, h => by
    simp only [setFrom]
    rw [setFrom_all l vs (by simpa using h)]

theorem fillS_sound {sz m : Nat} {z : List Value} {pv : List (Nat × Value)} {K : List Value → Prop} (hz : z.length = sz) (h : fillS sz m z pv K) : ∃ cs, fillL (placeA sz) (zeroL m z) pv = some cs ∧ K cs := by
  have old : ∀ k, (match fillL (placeA sz) (zeroL k z) pv with | some cs => forceL cs K | none => False) → ∃ cs, fillL (placeA sz) (zeroL k z) pv = some cs ∧ K cs := by
    intro k hk
    split at hk
    · rename_i cs hcs; exact ⟨cs, hcs, forceL_eq _ hk⟩
    · exact hk.elim
  unfold fillS at h
  split at h
  · split at h
    · rename_i us
      obtain ⟨h1, h2⟩ := h
      refine ⟨us, ?_, h2⟩
      have e1 : zeroL 1 z = z := by simp [zeroL]
      have e2 : Nat.beq (len us) sz = true := by rw [len_eq, h1]; simp
      have e3 : Nat.ble (0 * sz + len us) (len z) = true := by rw [len_eq, len_eq, h1, hz]; simp
      simp only [fillL, placeA, e1, e2, e3, Nat.zero_mul]
      rw [Nat.zero_mul] at e3
      simp only [e3]
      rw [setFrom_all _ _ (by rw [h1, hz])]
    · exact old 1 h
  · exact old _ h

theorem stop_buildSlice (hT : tabOk P T = true) (hf : Fr n l h a) (d : Desc w0 H0 M h H w) {t : TypeId} {m : Nat} {parts : Array (Nat × Operand)} (hop : o.op = .buildSlice t m parts)
    (hk : exStop P T w0.heap.size M (Desc w0 H0 M) (.buildSlice t m parts) l h H K) : StepC P w0 H0 M h o a w K .main := by
  simp only [exStop] at hk
  cases ht : lookT T t with
  | none => rw [ht] at hk; exact hk.elim
  | some ti =>
    rw [ht] at hk; simp only at hk
    have hty := tabOk_look hT ht
    split at hk <;> first | (exact hk.elim) | skip
    rename_i e hk0
    cases hte : lookT T e with
    | none => rw [hte] at hk; exact hk.elim
    | some te =>
      rw [hte] at hk; simp only at hk
      have htye := tabOk_look hT hte
      cases hes : evs l (parts.toList.map (·.2)) with
      | none => rw [hes] at hk; exact hk.elim
      | some ss =>
        rw [hes] at hk; simp only at hk
        obtain ⟨ev_, oks⟩ := evs_sound hf hes
        obtain ⟨h1, H1, l1, d1, hk⟩ := expos_sound ss d oks hk
        have hparts : (parts.map fun (i, x) => (i, a.eval x)).toList = (parts.toList.map (·.1)).zip (ss.map SV.val) := by
          rw [zip_parts parts.toList a.eval _ ev_]
          simp
        obtain ⟨cs, hcs, hk⟩ := fillS_sound htye.zlen hk
        obtain ⟨hle, hk⟩ := hk
        obtain ⟨H2, d2, hK⟩ := newExt_sound d1 hk
        refine step_main (s := .v (.slice (some ⟨w.heap.size, 0, none⟩) m m)) ?_ ⟨h1, H2, trivial, l1, d2, hK⟩
        obtain ⟨z, hz, hzc, _, _⟩ := htye.run_zero w
        have hzs : z.cells.size = te.sz ∨ te.sz = 0 ∨ True := .inr (.inr trivial)
        unfold execOp
        simp only [hop, Instr.buildSlice, Sem.run_bind, run_underlying (hty.slc hk0), Result.andThen_ok, htye.run_size w, hparts]
        have hn : ¬ (m * te.sz > 2 ^ 24) := by omega
        rw [if_neg hn]
        have hlen := htye.zlen
        have hzl : z.cells.size = te.sz := by rw [← hlen, ← hzc]; simp
        have fin : ∀ (zero : Array Value), ((Array.range (m * te.sz)).map (zero[· % zero.size]!)).toList = zeroL m te.z →
            Instr.fill (fun i => some (i * te.sz, te.sz)) ((Array.range (m * te.sz)).map (zero[· % zero.size]!)) ((parts.toList.map (·.1)).zip (ss.map SV.val)) = some cs.toArray := by
          intro zero hz
          have := fillL_sound _ _ _ _ hcs
          have e : (Array.range (m * te.sz)).map (zero[· % zero.size]!) = (zeroL m te.z).toArray := by
            apply Array.ext'; rw [hz]
          rw [e]; exact this
        by_cases h0 : m * te.sz = 0
        · rw [if_pos h0]
          have hfin := fin #[] (by
            rw [h0]
            rcases Nat.mul_eq_zero.1 h0 with h0 | h0
            · subst h0; simp [zeroL]
            · have : te.z = [] := List.length_eq_zero_iff.1 (by omega)
              rw [this]; simp [zeroL])
          simp only [Sem.run_pure, Result.andThen_ok, hfin, newRow, Sem.run_bind, run_newObj]
          rfl
        · rw [if_neg h0]
          have hfin := fin z.cells (by
            have := madeCells_eq z.cells m
            rw [hzl, hzc] at this
            exact this)
          simp only [Sem.run_bind, hz, Sem.run_pure, Result.andThen_ok, hfin, newRow, run_newObj]
          rfl

theorem stop_makeSlice (hT : tabOk P T = true) (hf : Fr n l h a) (d : Desc w0 H0 M h H w) {t : TypeId} {x y : Operand} (hop : o.op = .makeSlice t x y)
    (hk : exStop P T w0.heap.size M (Desc w0 H0 M) (.makeSlice t x y) l h H K) : StepC P w0 H0 M h o a w K .main := by
  simp only [exStop] at hk
  cases ht : lookT T t with
  | none => rw [ht] at hk; exact hk.elim
  | some ti =>
    rw [ht] at hk; simp only at hk
    have hty := tabOk_look hT ht
    split at hk <;> first | (exact hk.elim) | skip
    rename_i e hk0
    cases hte : lookT T e with
    | none => rw [hte] at hk; exact hk.elim
    | some te =>
      rw [hte] at hk; simp only at hk
      have htye := tabOk_look hT hte
      cases hx : ev l x with
      | none => rw [hx] at hk; exact hk.elim
      | some sx =>
        rw [hx] at hk
        split at hk <;> first | (exact hk.elim) | skip
        rename_i kx mx heq
        cases heq
        cases hy : ev l y with
        | none => rw [hy] at hk; exact hk.elim
        | some sy =>
          rw [hy] at hk
          split at hk <;> first | (exact hk.elim) | skip
          rename_i ky my heq
          cases heq
          obtain ⟨ex, _⟩ := ev_sound hf hx
          obtain ⟨ey, _⟩ := ev_sound hf hy
          obtain ⟨⟨g1, g2, g3, g4⟩, hk⟩ := hk
          obtain ⟨H2, d2, hK⟩ := newExt_sound d hk
          obtain ⟨i, z, hi, hs, hb, hz, hzc, _, _⟩ := htye.info
          refine step_main (s := .v (.slice (some ⟨w.heap.size, 0, none⟩) mx.toNat my.toNat)) ?_ ⟨h, H2, trivial, LBle.refl h, d2, hK⟩
          unfold execOp
          have hzl : z.cells.size = te.sz := by rw [← htye.zlen, ← hzc]; simp
          have := run_make (P := P) w t e i z (hty.slc hk0) hi hz kx ky mx my g1 g2 (by rw [hb]; exact g4) g3
          simp only [hop, ex, ey, SV.val, Sem.run_bind, this, Result.andThen_ok, Sem.run_pure]
          have e2 : madeCells z.cells (my.toNat * i.size) = (zeroL my.toNat te.z).toArray := by
            apply Array.ext'
            rw [hs, ← hzl, madeCells_eq, hzc]
          rw [e2]

theorem stop_makeMap (d : Desc w0 H0 M h H w) {t : TypeId} {r : Option Operand} (hop : o.op = .makeMap t r)
    (hk : exStop P T w0.heap.size M (Desc w0 H0 M) (.makeMap t r) l h H K) : StepC P w0 H0 M h o a w K .main := by
  cases r with
  | some r => exact hk.elim
  | none =>
    obtain ⟨H2, d2, hK⟩ := newExt_sound d hk
    refine step_main (s := .v (.map (some w.heap.size))) ?_ ⟨h, H2, trivial, LBle.refl h, d2, hK⟩
    unfold execOp
    simp only [hop, Instr.makeMap, Sem.run_bind, run_newObj, Sem.run_pure, Result.andThen_ok, Option.map_none]
    rfl

/-! ### maps -/
theorem checkKey_ok {kt : TypeId} {tk : TI} (hk : TyOk P kt tk) {key : Value} (hkey : keyIs tk.k key) (b : Bool) (m : Nat) (w : World) : (Instr.checkKey b (m + 1) kt key).run P w = .ok () w := by
  unfold keyIs at hkey
  split at hkey
  · rename_i k hk0
    obtain ⟨x, rfl⟩ := hkey
    simp [Instr.checkKey, run_underlying (hk.int hk0)]
  · rename_i hk0
    obtain ⟨x, rfl⟩ := hkey
    simp [Instr.checkKey, run_underlying (hk.str hk0)]
  · exact hkey.elim

def midx (k : Value) : List MapEntry → Nat → Option (Nat × Value)
  | [], _ => none
  | e :: es, i => if sameKey k e.key = true then some (i, e.val) else midx k es (i + 1)

theorem midx_find (k : Value) : ∀ (es : List MapEntry) (i : Nat), (midx k es i).map (·.2) = mfind k es
  | [], _ => rfl
  | e :: es, i => by
    simp only [midx, mfind]
    split
    · rfl
    · exact midx_find k es (i + 1)

theorem findNow_ok {kd : TypeDesc} {tk : TK} (hkd : kindIs P kd tk = true) {key : Value} (hkey : keyIs tk key) : ∀ (es : List MapEntry) (i : Nat), (∀ e ∈ es, keyIs tk e.key) →
    Instr.findNow kd key es i = some (midx key es i)
  | [], _, _ => rfl
  | e :: es, i, hes => by
    have he := hes e (List.mem_cons_self ..)
    have ih := findNow_ok hkd hkey es (i + 1) (fun x hx => hes x (List.mem_cons_of_mem _ hx))
    unfold Instr.findNow midx
    cases tk <;> simp only [keyIs] at hkey he <;> first | (exact hkey.elim) | skip
    · rename_i k
      obtain ⟨x, rfl⟩ := hkey
      obtain ⟨y, hy⟩ := he
      cases kd <;> simp [kindIs] at hkd
      rw [hy]
      simp only [Instr.sameNow, if_true, sameKey]
      by_cases hxy : x = y
      · simp [hxy]
      · have : (x == y) = false := by simpa using hxy
        rw [this]; simp [hxy, ih]
    · obtain ⟨x, rfl⟩ := hkey
      obtain ⟨y, hy⟩ := he
      cases kd <;> simp [kindIs] at hkd
      rw [hy]
      by_cases hxy : (x == y) = true
      · have hs : sameKey (.string x) (.string y) = true := hxy
        rw [if_pos hs]
        simp only [Instr.sameNow, hxy]
      · have hs : ¬ sameKey (.string x) (.string y) = true := hxy
        have hf : (x == y) = false := by simpa using hxy
        rw [if_neg hs]
        simp only [Instr.sameNow, hf]
        exact ih

theorem findKey_ok {kt : TypeId} {tk : TI} (hk : TyOk P kt tk) {key : Value} (hkey : keyIs tk.k key) {es : List MapEntry} (hes : ∀ e ∈ es, keyIs tk.k e.key) (w : World) :
    (Instr.findKey kt key es).run P w = .ok (midx key es 0) w := by
  obtain ⟨kd, hu, hkd⟩ := hk.und
  unfold Instr.findKey
  simp only [Sem.run_bind, run_underlying hu, Result.andThen_ok, findNow_ok hkd hkey es 0 hes, Sem.run_pure]

theorem getObj_map {w : World} {b : Nat} {es : Array MapEntry} {c : Nat} (hb : w.heap[b]? = some (.map es c)) : (getObj b).run P w = .ok (.map es c) w := by
  simp only [getObj, Sem.run, hb]

theorem setObj_map {w : World} {b : Nat} {es : Array MapEntry} {c : Nat} (ob : Obj) (hb : w.heap[b]? = some (.map es c)) : (setObj b ob).run P w = .ok () (World.putB w b ob) := by
  simp only [setObj, Sem.run, hb]
  rfl

theorem midx_lt (k : Value) : ∀ (es : List MapEntry) (i : Nat) (j : Nat) (v : Value), midx k es i = some (j, v) → i ≤ j ∧ ∃ e, es[j - i]? = some e ∧ sameKey k e.key = true ∧ e.val = v ∧
    (∀ (f : MapEntry → MapEntry), es.modify (j - i) f = es.take (j - i) ++ f e :: es.drop (j - i + 1)) ∧ (∀ x ∈ es.take (j - i), sameKey k x.key = false)
  | [], _, _, _, h => by cases h
  | e :: es, i, j, v, h => by
    simp only [midx] at h
    split at h
    · rename_i hs
      simp at h
      obtain ⟨rfl, rfl⟩ := h
      exact ⟨Nat.le_refl _, e, by simp, hs, rfl, by intro f; simp, by simp⟩
    · rename_i hs
      obtain ⟨h1, e', h2, h3, h4, h5, h6⟩ := midx_lt k es (i + 1) j v h
      refine ⟨by omega, e', ?_, h3, h4, ?_, ?_⟩
      · rw [show j - i = (j - (i + 1)) + 1 from by omega]; simpa using h2
      · intro f
        rw [show j - i = (j - (i + 1)) + 1 from by omega]
        simp only [List.modify_succ_cons, h5, List.take_succ_cons, List.drop_succ_cons, List.cons_append]
      · rw [show j - i = (j - (i + 1)) + 1 from by omega]
        simp only [List.take_succ_cons]
        intro x hx
        rcases List.mem_cons.1 hx with rfl | hx
        · simpa using hs
        · exact h6 x hx

theorem mset_split (k v : Value) : ∀ (pre : List MapEntry) (e : MapEntry) (post : List MapEntry), (∀ x ∈ pre, sameKey k x.key = false) → sameKey k e.key = true →
    mset k v (pre ++ e :: post) = pre ++ { e with key := k, val := v } :: post
  | [], e, post, _, he => by simp [mset, he]
  | p :: pre, e, post, hp, he => by
    have := hp p (List.mem_cons_self ..)
    simp only [List.cons_append, mset, this, Bool.false_eq_true, if_false]
    rw [mset_split k v pre e post (fun x hx => hp x (List.mem_cons_of_mem _ hx)) he]

theorem mdel_split (k : Value) : ∀ (pre : List MapEntry) (e : MapEntry) (post : List MapEntry), (∀ x ∈ pre, sameKey k x.key = false) → sameKey k e.key = true →
    mdel k (pre ++ e :: post) = pre ++ post
  | [], e, post, _, he => by simp [mdel, he]
  | p :: pre, e, post, hp, he => by
    have := hp p (List.mem_cons_self ..)
    simp only [List.cons_append, mdel, this, Bool.false_eq_true, if_false]
    rw [mdel_split k pre e post (fun x hx => hp x (List.mem_cons_of_mem _ hx)) he]

theorem take_at {α : Type} {l : List α} {j : Nat} {e : α} (h : l[j]? = some e) : l = l.take j ++ e :: l.drop (j + 1) := by
  obtain ⟨hlt, he⟩ := List.getElem?_eq_some_iff.1 h
  have := List.take_append_drop j l
  rw [List.drop_eq_getElem_cons hlt, he] at this
  exact this.symm

theorem mdel_none (k : Value) : ∀ (es : List MapEntry), mfind k es = none → mdel k es = es
  | [], _ => rfl
  | e :: es, h => by
    simp only [mfind] at h
    split at h
    · cases h
    · rename_i hs
      simp only [mdel]
      rw [if_neg hs, mdel_none k es h]
end
end Go.Eng
