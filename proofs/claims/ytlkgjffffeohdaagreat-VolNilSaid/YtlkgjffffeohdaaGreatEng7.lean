/- The engine is sound, part six: maps, slices, conversions, calls. -/
import Derived.Test.YtlkgjffffeohdaaGreatEng6
set_option linter.unusedVariables false
set_option linter.unusedSimpArgs false
namespace Go.Eng
open Go

section
variable {P : Program} {T : Tab} {n : Nat} {w0 : World} {H0 : HV} {M : Nat → Prop} {l : Env} {h : List LB} {H : HV} {a : Act} {w : World} {o : Oper} {K : KS}

theorem zero_value {te : TI} {et : TypeId} (hte : TyOk P et te) (w : World) : ∃ z, (zeroValue et).run P w = .ok z w ∧ (te.k.agg = true → z = .agg ⟨te.z⟩) ∧ (te.k.agg = false → ∀ z', te.z = [z'] → z = z') := by
  obtain ⟨z, hz, hzc, h1, h2⟩ := hte.run_zero w
  refine ⟨z, hz, fun ha => h1 ha, fun ha z' hz' => ?_⟩
  have := h2 ha
  rw [this, hz'] at hzc
  simpa using hzc

theorem stop_lookup (hT : tabOk P T = true) (hf : Fr n l h a) (d : Desc w0 H0 M h H w) {t : TypeId} {m x : Operand} {ok : Bool} (hop : o.op = .lookup t m x ok)
    (hk : exStop P T w0.heap.size M (Desc w0 H0 M) (.lookup t m x ok) l h H K) : StepC P w0 H0 M h o a w K .read := by
  simp only [exStop] at hk
  cases ht : lookT T t with
  | none => rw [ht] at hk; exact hk.elim
  | some ti =>
    rw [ht] at hk; simp only at hk
    have hty := tabOk_look hT ht
    split at hk <;> first | (exact hk.elim) | skip
    rename_i kt et hk0
    cases htk : lookT T kt with
    | none => rw [htk] at hk; exact hk.elim
    | some tk =>
      rw [htk] at hk; simp only at hk
      have htyk := tabOk_look hT htk
      cases hte : lookT T et with
      | none => rw [hte] at hk; exact hk.elim
      | some te =>
        rw [hte] at hk; simp only at hk
        have htye := tabOk_look hT hte
        cases hx : ev l x with
        | none => rw [hx] at hk; exact hk.elim
        | some sx =>
          rw [hx] at hk
          split at hk <;> first | (exact hk.elim) | skip
          rename_i key heq
          cases heq
          obtain ⟨ex, _⟩ := ev_sound hf hx
          obtain ⟨z, hz, hz1, hz2⟩ := zero_value htye w
          -- what is handed back, from the entry that was found or not
          have fin : ∀ (mv : Value) (r : Option (Nat × Value)), a.eval m = mv → (Instr.lookup t mv key ok).run P w = (match r with
                | some (_, v) => .ok (if ok then .tuple #[v, .bool true] else v) w
                | none => .ok (if ok then .tuple #[z, .bool false] else z) w) → 
              (∀ j v, r = some (j, v) → okK ok true v (fun s => K s h H)) → (r = none → missK te ok (fun s => K s h H)) →
              StepC P w0 H0 M h o a w K .read := by
            intro mv r em hr h1 h2
            have run : ∀ v, (Instr.lookup t mv key ok).run P w = .ok v w → (execOp a.eval o).run P w = .ok (.value v) w := by
              intro v hv
              unfold execOp
              simp only [hop, em, ex, SV.val, Sem.run_bind, hv, Result.andThen_ok, Sem.run_pure]
            cases r with
            | some jv =>
              obtain ⟨j, v⟩ := jv
              have hK := h1 j v rfl
              cases ok with
              | true => exact step_readV (run _ hr) d hK
              | false => exact step_readV (run _ hr) d hK
            | none =>
              have hK := h2 rfl
              unfold missK at hK
              cases hag : te.k.agg with
              | false =>
                rw [hag] at hK
                simp only at hK
                split at hK <;> first | (exact hK.elim) | skip
                rename_i z' hz'
                have := hz2 hag z' hz'
                subst this
                cases ok with
                | true => exact step_readV (run _ hr) d hK
                | false => exact step_readV (run _ hr) d hK
              | true =>
                rw [hag] at hK
                have := hz1 hag
                subst this
                cases ok with
                | true => exact step_readV (run _ hr) d hK
                | false => exact step_readV (run _ hr) d hK
          cases hm : ev l m with
          | none => rw [hm] at hk; exact hk.elim
          | some sm =>
            rw [hm] at hk
            obtain ⟨em, _⟩ := ev_sound hf hm
            split at hk <;> first | (exact hk.elim) | skip
            · rename_i b heq
              cases heq
              obtain ⟨es, c, hb, hkey, hes, h1, h2⟩ := hk
              have hb' := d.sub _ _ hb
              refine fin _ (midx key es.toList 0) em ?_ ?_ ?_
              · unfold Instr.lookup
                simp only [Sem.run_bind, run_underlying (hty.map hk0), Result.andThen_ok, SV.val, getObj_map hb', Sem.run_pure, checkKey_ok htyk hkey, findKey_ok htyk hkey hes]
                cases midx key es.toList 0 with
                | none => simp only [Sem.run_bind, hz, Result.andThen_ok, Sem.run_pure]
                | some jv => obtain ⟨j, v⟩ := jv; simp only [Sem.run_bind, Sem.run_pure, Result.andThen_ok]
              · intro j v hj
                refine h1 v ?_
                rw [← midx_find key es.toList 0, hj]; rfl
              · intro hj
                refine h2 ?_
                rw [← midx_find key es.toList 0, hj]; rfl
            · rename_i heq
              cases heq
              obtain ⟨hkey, hK⟩ := hk
              refine fin _ none em ?_ (fun j v hj => by cases hj) (fun _ => hK)
              unfold Instr.lookup
              simp only [Sem.run_bind, run_underlying (hty.map hk0), Result.andThen_ok, SV.val, Sem.run_pure, checkKey_ok htyk hkey]
              have := findKey_ok htyk hkey (es := []) (by intro e he; cases he) w
              simp only [this, midx, Result.andThen_ok, Sem.run_bind, hz, Sem.run_pure]

theorem ba_beq (x y : ByteArray) : (x == y) = true ↔ x = y := by
  obtain ⟨⟨x⟩⟩ := x
  obtain ⟨⟨y⟩⟩ := y
  show ((⟨x⟩ : Array UInt8) == ⟨y⟩) = true ↔ _
  simp

theorem keyThatStays_ok {key old : Value} (hs : sameKey key old = true) {tk : TK} (h1 : keyIs tk key) (h2 : keyIs tk old) (w : World) : (Instr.keyThatStays old key).run P w = .ok key w := by
  have : Instr.sameBits 10000 old key = true := by
    cases tk <;> simp only [keyIs] at h1 h2 <;> first | (exact h1.elim) | skip
    · obtain ⟨x, rfl⟩ := h1
      obtain ⟨y, rfl⟩ := h2
      simp only [sameKey, decide_eq_true_eq] at hs
      subst hs
      simp [Instr.sameBits]
    · obtain ⟨x, rfl⟩ := h1
      obtain ⟨y, rfl⟩ := h2
      simp only [sameKey] at hs
      have : x = y := (ba_beq x y).1 hs
      subst this
      exact (ba_beq x x).2 rfl
  unfold Instr.keyThatStays
  simp only [this, if_true]
  rfl

theorem stop_mapUpdate (hT : tabOk P T = true) (hf : Fr n l h a) (d : Desc w0 H0 M h H w) {t : TypeId} {m x y : Operand} (hop : o.op = .mapUpdate t m x y)
    (hk : exStop P T w0.heap.size M (Desc w0 H0 M) (.mapUpdate t m x y) l h H K) : StepC P w0 H0 M h o a w K .main := by
  simp only [exStop] at hk
  cases ht : lookT T t with
  | none => rw [ht] at hk; exact hk.elim
  | some ti =>
    rw [ht] at hk; simp only at hk
    have hty := tabOk_look hT ht
    split at hk <;> first | (exact hk.elim) | skip
    rename_i kt et hk0
    cases htk : lookT T kt with
    | none => rw [htk] at hk; exact hk.elim
    | some tk =>
      rw [htk] at hk; simp only at hk
      have htyk := tabOk_look hT htk
      cases hx : ev l x with
      | none => rw [hx] at hk; exact hk.elim
      | some sx =>
        rw [hx] at hk
        split at hk <;> first | (exact hk.elim) | skip
        rename_i key heq
        cases heq
        obtain ⟨ex, _⟩ := ev_sound hf hx
        cases hm : ev l m with
        | none => rw [hm] at hk; exact hk.elim
        | some sm =>
          rw [hm] at hk
          obtain ⟨em, _⟩ := ev_sound hf hm
          split at hk <;> first | (exact hk.elim) | skip
          rename_i b heq
          cases heq
          cases hy : ev l y with
          | none => rw [hy] at hk; exact hk.elim
          | some sy =>
            rw [hy] at hk
            obtain ⟨ey, oky⟩ := ev_sound hf hy
            obtain ⟨h1, H1, l1, d1, hk⟩ := expo_sound d oky hk
            obtain ⟨es, c, hb, hkey, hes, hM, hK⟩ := hk
            have hb' := d1.sub _ _ hb
            obtain ⟨H2, hU, d2⟩ := d1.upd (.map (mput key sy.val es.toList c).1.toArray (mput key sy.val es.toList c).2) hb hM
            refine step_skip ?_ ⟨h1, H2, trivial, l1, d2, hK H2 hU⟩
            unfold execOp
            have em' : a.eval m = .map (some b) := em
            have ex' : a.eval x = key := ex
            simp only [hop, em', ex', ey, Sem.run_bind]
            have hmu : (Instr.mapUpdate t (.map (some b)) key sy.val).run P w = .ok () (World.putB w b (.map (mput key sy.val es.toList c).1.toArray (mput key sy.val es.toList c).2)) := by
              unfold Instr.mapUpdate
              simp only [Sem.run_bind, run_underlying (hty.map hk0), Result.andThen_ok, getObj_map hb', checkKey_ok htyk hkey, findKey_ok htyk hkey hes]
              have hmf := midx_find key es.toList 0
              cases hmi : midx key es.toList 0 with
              | none =>
                rw [hmi] at hmf
                have hnone : mfind key es.toList = none := hmf.symm
                simp only [setObj_map _ hb', mput, hnone, Option.isSome_none, Bool.false_eq_true, if_false]
                have e1 : es.push { key := key, val := sy.val, born := c } = (es.toList ++ [({ key := key, val := sy.val, born := c } : MapEntry)]).toArray := by
                  apply Array.ext'; simp
                rw [e1]
              | some jv =>
                obtain ⟨j, v⟩ := jv
                rw [hmi] at hmf
                have hsome : mfind key es.toList = some v := hmf.symm
                obtain ⟨_, e, he, hse, hev, hmod, hpre⟩ := midx_lt key es.toList 0 j v hmi
                simp only [Nat.sub_zero] at he hmod hpre
                have hej : es[j]? = some e := by rw [← Array.getElem?_toList]; exact he
                have hke := hes e (List.mem_of_getElem? he)
                simp only [hej, Option.map_some, Option.getD_some, Sem.run_bind, keyThatStays_ok hse hkey hke, Result.andThen_ok, setObj_map _ hb', mput, hsome, Option.isSome_some, if_true]
                congr 2
                have e1 : (es.modify j fun e => { e with key := key, val := sy.val }) = (mset key sy.val es.toList).toArray := by
                  apply Array.ext'
                  rw [Array.toList_modify, hmod]
                  rw [show mset key sy.val es.toList = mset key sy.val (es.toList.take j ++ e :: es.toList.drop (j + 1)) from by rw [← take_at he]]
                  rw [mset_split key sy.val _ e _ hpre hse]
                rw [e1]
            simp only [hmu, Result.andThen_ok, Sem.run_pure]

theorem stop_delete (hT : tabOk P T = true) (hf : Fr n l h a) (d : Desc w0 H0 M h H w) {c : Call} (hop : o.op = .call c) (hc : c.callee = .builtin .delete)
    (hk : exStop P T w0.heap.size M (Desc w0 H0 M) (.call c) l h H K) : StepC P w0 H0 M h o a w K .main := by
  obtain ⟨callee, args, ats⟩ := c
  simp only at hc
  subst hc
  simp only [exStop] at hk
  split at hk <;> first | (exact hk.elim) | skip
  rename_i t ts
  cases ht : lookT T t with
  | none => rw [ht] at hk; exact hk.elim
  | some ti =>
    rw [ht] at hk; simp only at hk
    have hty := tabOk_look hT ht
    split at hk <;> first | (exact hk.elim) | skip
    rename_i kt et hk0
    cases htk : lookT T kt with
    | none => rw [htk] at hk; exact hk.elim
    | some tk =>
      rw [htk] at hk; simp only at hk
      have htyk := tabOk_look hT htk
      split at hk <;> first | (exact hk.elim) | skip
      rename_i m x
      cases hx : ev l x with
      | none => rw [hx] at hk; exact hk.elim
      | some sx =>
        rw [hx] at hk
        split at hk <;> first | (exact hk.elim) | skip
        rename_i key heq
        cases heq
        obtain ⟨ex, _⟩ := ev_sound hf hx
        cases hm : ev l m with
        | none => rw [hm] at hk; exact hk.elim
        | some sm =>
          rw [hm] at hk
          obtain ⟨em, _⟩ := ev_sound hf hm
          split at hk <;> first | (exact hk.elim) | skip
          rename_i b heq
          cases heq
          obtain ⟨es, c, hb, hkey, hes, hM, hK⟩ := hk
          have hb' := d.sub _ _ hb
          obtain ⟨H2, hU, d2⟩ := d.upd (.map (mdel key es.toList).toArray c) hb hM
          refine step_main (s := .v (.tuple #[])) ?_ ⟨h, H2, trivial, LBle.refl h, d2, hK H2 hU⟩
          rw [exec_builtin hop w]
          have hdel : (Builtin.delete_ ⟨t :: ts⟩ o.type #[.map (some b), key]).run P w = .ok (.tuple #[]) (World.putB w b (.map (mdel key es.toList).toArray c)) := by
            unfold Builtin.delete_
            simp only [List.getElem?_toArray, List.getElem?_cons_zero, List.getElem?_cons_succ, Sem.run_bind, run_underlying (hty.map hk0), Result.andThen_ok, getObj_map hb', checkKey_ok htyk hkey, findKey_ok htyk hkey hes]
            have hmf := midx_find key es.toList 0
            cases hmi : midx key es.toList 0 with
            | none =>
              rw [hmi] at hmf
              have hnone : mfind key es.toList = none := hmf.symm
              simp only [Sem.run_bind, setObj_map _ hb', Result.andThen_ok, Sem.run_pure]
              rw [mdel_none _ _ hnone]
            | some jv =>
              obtain ⟨j, v⟩ := jv
              obtain ⟨_, e, he, hse, hev, hmod, hpre⟩ := midx_lt key es.toList 0 j v hmi
              simp only [Nat.sub_zero] at he hmod hpre
              simp only [Sem.run_bind, setObj_map _ hb', Result.andThen_ok, Sem.run_pure]
              congr 2
              have e1 : es.eraseIdxIfInBounds j = (mdel key es.toList).toArray := by
                apply Array.ext'
                rw [Array.toList_eraseIdxIfInBounds]
                rw [show mdel key es.toList = mdel key (es.toList.take j ++ e :: es.toList.drop (j + 1)) from by rw [← take_at he]]
                rw [mdel_split key _ e _ hpre hse, List.eraseIdx_eq_take_drop_succ]
              rw [e1]
          simp only [builtin, List.map_toArray, List.map_cons, List.map_nil, em, ex, SV.val, Sem.run_bind, hdel, Result.andThen_ok, Sem.run_pure]

theorem stop_clear (hT : tabOk P T = true) (hf : Fr n l h a) (d : Desc w0 H0 M h H w) {c : Call} (hop : o.op = .call c) (hc : c.callee = .builtin .clear)
    (hk : exStop P T w0.heap.size M (Desc w0 H0 M) (.call c) l h H K) : StepC P w0 H0 M h o a w K .main := by
  obtain ⟨callee, args, ats⟩ := c
  simp only at hc
  subst hc
  simp only [exStop] at hk
  split at hk <;> first | (exact hk.elim) | skip
  rename_i t ts
  cases ht : lookT T t with
  | none => rw [ht] at hk; exact hk.elim
  | some ti =>
    rw [ht] at hk; simp only at hk
    have hty := tabOk_look hT ht
    split at hk <;> first | (exact hk.elim) | skip
    · rename_i kt et hk0
      split at hk <;> first | (exact hk.elim) | skip
      rename_i m
      cases hm : ev l m with
      | none => rw [hm] at hk; exact hk.elim
      | some sm =>
        rw [hm] at hk
        obtain ⟨em, _⟩ := ev_sound hf hm
        split at hk <;> first | (exact hk.elim) | skip
        rename_i b heq
        cases heq
        obtain ⟨es, c, hb, hM, hK⟩ := hk
        have hb' := d.sub _ _ hb
        obtain ⟨H2, hU, d2⟩ := d.upd (.map #[] c) hb hM
        refine step_main (s := .v (.tuple #[])) ?_ ⟨h, H2, trivial, LBle.refl h, d2, hK H2 hU⟩
        rw [exec_builtin hop w]
        have hcl : (Builtin.clear_ ⟨t :: ts⟩ o.type #[.map (some b)]).run P w = .ok (.tuple #[]) (World.putB w b (.map #[] c)) := by
          unfold Builtin.clear_
          simp only [List.getElem?_toArray, List.getElem?_cons_zero, Sem.run_bind, run_underlying (hty.map hk0), Result.andThen_ok, getObj_map hb', setObj_map _ hb', Sem.run_pure]
        simp only [builtin, List.map_toArray, List.map_cons, List.map_nil, em, SV.val, Sem.run_bind, hcl, Result.andThen_ok, Sem.run_pure]
    · rename_i e hk0
      cases hte : lookT T e with
      | none => rw [hte] at hk; exact hk.elim
      | some te =>
        rw [hte] at hk; simp only at hk
        have htye := tabOk_look hT hte
        split at hk <;> first | (exact hk.elim) | skip
        rename_i m
        cases hm : ev l m with
        | none => rw [hm] at hk; exact hk.elim
        | some sm =>
          rw [hm] at hk
          obtain ⟨em, _⟩ := ev_sound hf hm
          have fin : ∀ (ad : Option Addr) (n cp : Nat) (w' : World), a.eval m = .slice ad n cp → (Builtin.clear_ ⟨t :: ts⟩ o.type #[.slice ad n cp]).run P w = .ok (.tuple #[]) w' →
              (execOp a.eval o).run P w = .ok (.value (.tuple #[])) w' := by
            intro ad n cp w' ex hcl
            rw [exec_builtin hop w]
            simp only [builtin, List.map_toArray, List.map_cons, List.map_nil, ex, Sem.run_bind, hcl, Result.andThen_ok, Sem.run_pure]
          split at hk <;> first | (exact hk.elim) | skip
          · rename_i n cp heq
            cases heq
            refine step_main (s := .v (.tuple #[])) (fin none n cp w em ?_) ⟨h, H, trivial, LBle.refl h, d, hk⟩
            unfold Builtin.clear_
            simp only [List.getElem?_toArray, List.getElem?_cons_zero, Sem.run_bind, run_underlying (hty.slc hk0), Result.andThen_ok, Sem.run_pure]
          · rename_i b off n cp heq
            cases heq
            by_cases h0 : n = 0
            · refine step_main (s := .v (.tuple #[])) (fin _ n cp w em ?_) ⟨h, H, trivial, LBle.refl h, d, hk.1 h0⟩
              subst h0
              unfold Builtin.clear_
              simp only [List.getElem?_toArray, List.getElem?_cons_zero, Sem.run_bind, run_underlying (hty.slc hk0), Result.andThen_ok, Sem.run_pure]
            · obtain ⟨arr, ty, fr, hb, hl, hff, hM, h1, hK⟩ := hk.2 h0
              obtain ⟨H', hU, d'⟩ := d.upd (.cells (setMany arr off (zeroL n te.z)) ty fr) hb hM
              refine step_main (s := .v (.tuple #[])) (fin _ n cp _ em ?_) ⟨h, H', trivial, LBle.refl h, d', hK H' hU⟩
              obtain ⟨k, rfl⟩ : ∃ k, n = k + 1 := ⟨n - 1, by omega⟩
              obtain ⟨z, hz, hzc, _, _⟩ := htye.run_zero w
              have hst := run_storeCells (P := P) off (zeroL (k + 1) te.z) 0 w arr (d.sub _ _ hb) (by simpa using hl) (by simpa using hff) h1
              have hzz : (Builtin.zeroCells z.cells (k + 1)).toList = zeroL (k + 1) te.z := by rw [zeroCells_eq, hzc]
              unfold Builtin.clear_
              simp only [List.getElem?_toArray, List.getElem?_cons_zero, Sem.run_bind, run_underlying (hty.slc hk0), Result.andThen_ok, hz, hzz]
              rw [hst]
              rfl

theorem stop_lenMap (hT : tabOk P T = true) (hf : Fr n l h a) (d : Desc w0 H0 M h H w) {c : Call} (hop : o.op = .call c) (hc : c.callee = .builtin .len)
    (hk : exStop P T w0.heap.size M (Desc w0 H0 M) (.call c) l h H K) : StepC P w0 H0 M h o a w K (clsT T (.call c)) := by
  obtain ⟨callee, args, ats⟩ := c
  simp only at hc
  subst hc
  simp only [exStop] at hk
  split at hk <;> first | (exact hk.elim) | skip
  rename_i t ts
  cases ht : lookT T t with
  | none => rw [ht] at hk; exact hk.elim
  | some ti =>
    rw [ht] at hk; simp only at hk
    have hty := tabOk_look hT ht
    split at hk <;> first | (exact hk.elim) | skip
    rename_i kt et hk0
    have hcls : clsT T (.call ⟨.builtin .len, args, ⟨t :: ts⟩⟩) = .read := by simp only [clsT, ht, hk0]
    rw [hcls]
    split at hk <;> first | (exact hk.elim) | skip
    rename_i m
    cases hm : ev l m with
    | none => rw [hm] at hk; exact hk.elim
    | some sm =>
      rw [hm] at hk
      obtain ⟨em, _⟩ := ev_sound hf hm
      split at hk <;> first | (exact hk.elim) | skip
      · rename_i b heq
        cases heq
        obtain ⟨es, c, hb, hK⟩ := hk
        have hb' := d.sub _ _ hb
        refine step_readV ?_ d hK
        rw [exec_builtin hop w]
        simp only [builtin, List.map_toArray, List.map_cons, List.map_nil, em, SV.val, Sem.run_bind]
        unfold Builtin.len_
        simp only [List.getElem?_toArray, List.getElem?_cons_zero, Sem.run_bind, run_underlying (hty.map hk0), Result.andThen_ok, getObj_map hb', Sem.run_pure, goInt]
      · rename_i heq
        cases heq
        refine step_readV ?_ d hk
        rw [exec_builtin hop w]
        simp only [builtin, List.map_toArray, List.map_cons, List.map_nil, em, SV.val, Sem.run_bind]
        unfold Builtin.len_
        simp only [List.getElem?_toArray, List.getElem?_cons_zero, Sem.run_bind, run_underlying (hty.map hk0), Result.andThen_ok, Sem.run_pure, goInt]

/-! ### slices, elements -/
theorem boundI_sound (hf : Fr n l h a) {x : Option Operand} {r : Option Int} (hr : boundI l x = some r) :
    (r = none ∧ x.map a.eval = none) ∨ ∃ k m, r = some m ∧ x.map a.eval = some (.int k m) := by
  cases x with
  | none => simp [boundI] at hr; subst hr; exact .inl ⟨rfl, rfl⟩
  | some x =>
    simp only [boundI] at hr
    cases hx : ev l x with
    | none => rw [hx] at hr; cases hr
    | some sx =>
      rw [hx] at hr
      split at hr <;> first | (cases hr; done) | skip
      rename_i k m heq
      cases heq; cases hr
      exact .inr ⟨k, m, rfl, by simp [(ev_sound hf hx).1, SV.val]⟩

theorem run_sliceBound (k : IntKind) (i : Int) (y : Nat) (c : BoundsCode) (h0 : 0 ≤ i) (h1 : i ≤ y) (w : World) : (Instr.sliceBound (.int k i) y c).run P w = .ok i.toNat w := by
  unfold Instr.sliceBound
  simp only [asIntOf, Sem.run_bind, Sem.run_pure, Result.andThen_ok]
  rw [if_pos ⟨h0, h1⟩]
  rfl

/-- the model's bounds, from the engine's -/
theorem sliceAt_sound (b : Bool) (ln cp : Nat) (hf : Fr n l h a) {lo hi mx : Option Operand} {lo' hi' mx' : Option Int} (h1 : boundI l lo = some lo') (h2 : boundI l hi = some hi') (h3 : boundI l mx = some mx')
    {KK : Nat → Nat → Nat → Prop} (hk : sliceAt ln cp lo' hi' mx' KK) :
    ∃ i j m, (∀ w, (Instr.sliceBounds b ln cp (lo.map a.eval) (hi.map a.eval) (mx.map a.eval)).run P w = .ok (i, j, m) w) ∧ KK i j m ∧ (lo' = none → i = 0) := by
  unfold Instr.sliceBounds
  rcases boundI_sound hf h3 with ⟨rfl, e3⟩ | ⟨k3, m3, rfl, e3⟩
  · rcases boundI_sound hf h2 with ⟨rfl, e2⟩ | ⟨k2, m2, rfl, e2⟩
    · rcases boundI_sound hf h1 with ⟨rfl, e1⟩ | ⟨k1, m1, rfl, e1⟩
      · simp only [sliceAt] at hk
        rw [e1, e2, e3]
        exact ⟨0, ln, cp, fun w => by simp only [Sem.run_bind, Sem.run_pure, Result.andThen_ok], hk, fun _ => rfl⟩
      · simp only [sliceAt] at hk
        rw [e1, e2, e3]
        obtain ⟨⟨g1, g2⟩, hk⟩ := hk
        refine ⟨m1.toNat, ln, cp, fun w => ?_, hk, fun h => by cases h⟩
        simp only [Sem.run_bind, Sem.run_pure, Result.andThen_ok, run_sliceBound k1 m1 ln _ g1 g2]
    · rcases boundI_sound hf h1 with ⟨rfl, e1⟩ | ⟨k1, m1, rfl, e1⟩
      · simp only [sliceAt] at hk
        rw [e1, e2, e3]
        obtain ⟨⟨g1, g2⟩, hk⟩ := hk
        exact ⟨0, m2.toNat, cp, fun w => by simp only [Sem.run_bind, Sem.run_pure, Result.andThen_ok, run_sliceBound _ _ _ _ g1 g2], hk, fun _ => rfl⟩
      · simp only [sliceAt] at hk
        rw [e1, e2, e3]
        obtain ⟨⟨g1, g2, g3⟩, hk⟩ := hk
        refine ⟨m1.toNat, m2.toNat, cp, fun w => ?_, hk, fun h => by cases h⟩
        have q1 := fun c => run_sliceBound (P := P) k2 m2 cp c (by omega) g3 w
        have q2 := fun c => run_sliceBound (P := P) k1 m1 m2.toNat c g1 (by omega) w
        simp only [Sem.run_bind, Sem.run_pure, Result.andThen_ok, q1, q2]
  · rcases boundI_sound hf h2 with ⟨rfl, e2⟩ | ⟨k2, m2, rfl, e2⟩
    · rcases boundI_sound hf h1 with ⟨rfl, e1⟩ | ⟨k1, m1, rfl, e1⟩ <;> exact hk.elim
    · rcases boundI_sound hf h1 with ⟨rfl, e1⟩ | ⟨k1, m1, rfl, e1⟩
      · simp only [sliceAt] at hk
        rw [e1, e2, e3]
        obtain ⟨⟨g1, g2, g3⟩, hk⟩ := hk
        refine ⟨0, m2.toNat, m3.toNat, fun w => ?_, hk, fun _ => rfl⟩
        have q1 := fun c => run_sliceBound (P := P) k3 m3 cp c (by omega) g3 w
        have q2 := fun c => run_sliceBound (P := P) k2 m2 m3.toNat c g1 (by omega) w
        simp only [Sem.run_bind, Sem.run_pure, Result.andThen_ok, q1, q2]
      · simp only [sliceAt] at hk
        rw [e1, e2, e3]
        obtain ⟨⟨g1, g2, g3, g4⟩, hk⟩ := hk
        refine ⟨m1.toNat, m2.toNat, m3.toNat, fun w => ?_, hk, fun h => by cases h⟩
        have q1 := fun c => run_sliceBound (P := P) k3 m3 cp c (by omega) g4 w
        have q2 := fun c => run_sliceBound (P := P) k2 m2 m3.toNat c (by omega) (by omega) w
        have q3 := fun c => run_sliceBound (P := P) k1 m1 m2.toNat c g1 (by omega) w
        simp only [Sem.run_bind, Sem.run_pure, Result.andThen_ok, q1, q2, q3]

theorem stop_slice (hT : tabOk P T = true) (hf : Fr n l h a) (d : Desc w0 H0 M h H w) {t : TypeId} {x : Operand} {lo hi mx : Option Operand} (hop : o.op = .slice t x lo hi mx)
    (hk : exStop P T w0.heap.size M (Desc w0 H0 M) (.slice t x lo hi mx) l h H K) : StepC P w0 H0 M h o a w K .free := by
  simp only [exStop] at hk
  cases ht : lookT T t with
  | none => rw [ht] at hk; exact hk.elim
  | some ti =>
    rw [ht] at hk; simp only at hk
    have hty := tabOk_look hT ht
    cases h1 : boundI l lo with
    | none => rw [h1] at hk; exact hk.elim
    | some lo' =>
      cases h2 : boundI l hi with
      | none => rw [h1, h2] at hk; exact hk.elim
      | some hi' =>
        cases h3 : boundI l mx with
        | none => rw [h1, h2, h3] at hk; exact hk.elim
        | some mx' =>
          rw [h1, h2, h3] at hk; simp only at hk
          have run : ∀ v xv, a.eval x = xv → (∀ w, (Instr.sliceAt t xv (lo.map a.eval) (hi.map a.eval) (mx.map a.eval)).run P w = .ok v w) → ∀ w, (execOp a.eval o).run P w = .ok (.value v) w := by
            intro v xv hx hv w
            unfold execOp
            simp only [hop, hx, Sem.run_bind, hv w, Result.andThen_ok, Sem.run_pure]
          have dst : ∀ (b off i j m sz : Nat), (lo' = none → i = 0) → dstK lo' b off i j m sz (fun s => K s h H) →
              K (.v (.slice (some (if m = i then (⟨b, off, none⟩ : Addr) else (⟨b, off, none⟩ : Addr).add (i * sz))) (j - i) (m - i))) h H := by
            intro b off i j m sz h0 hK
            have e : (if m = i then (⟨b, off, none⟩ : Addr) else (⟨b, off, none⟩ : Addr).add (i * sz)) = ⟨b, if m = i then off else off + i * sz, none⟩ := by
              rw [add_addr]; split <;> rfl
            rw [e]
            cases lo' with
            | none =>
              have := h0 rfl
              subst this
              simp only [Nat.zero_mul, Nat.add_zero, ite_self, Nat.sub_zero]
              exact hK
            | some q => exact hK
          split at hk <;> first | (exact hk.elim) | skip
          · rename_i e hk0
            cases hx : ev l x with
            | none => rw [hx] at hk; exact hk.elim
            | some sx =>
              rw [hx] at hk
              obtain ⟨ex, _⟩ := ev_sound hf hx
              split at hk <;> first | (exact hk.elim) | skip
              · rename_i b off ln cp heq
                cases heq
                unfold sizeT at hk
                cases he : lookT T e with
                | none => rw [he] at hk; exact hk.elim
                | some te =>
                  rw [he] at hk; simp only at hk
                  obtain ⟨i, j, m, hr, hK, h0⟩ := sliceAt_sound (P := P) true ln cp hf h1 h2 h3 hk
                  refine step_freeV (run _ _ ex (fun w => ?_)) d (dst b off i j m te.sz h0 hK)
                  unfold Instr.sliceAt
                  simp only [Sem.run_bind, run_underlying (hty.slc hk0), Result.andThen_ok, SV.val]
                  unfold Instr.slice
                  simp only [Sem.run_bind, run_underlying (hty.slc hk0), Result.andThen_ok, hr w, (tabOk_look hT he).run_size w, Sem.run_pure]
                  congr 2
                  split <;> rfl
              · rename_i ln cp heq
                cases heq
                unfold sizeT at hk
                cases he : lookT T e with
                | none => rw [he] at hk; exact hk.elim
                | some te =>
                  rw [he] at hk; simp only at hk
                  obtain ⟨i, j, m, hr, hK, h0⟩ := sliceAt_sound (P := P) true ln cp hf h1 h2 h3 hk
                  refine step_freeV (run _ _ ex (fun w => ?_)) d hK
                  unfold Instr.sliceAt
                  simp only [Sem.run_bind, run_underlying (hty.slc hk0), Result.andThen_ok, SV.val]
                  unfold Instr.slice
                  simp only [Sem.run_bind, run_underlying (hty.slc hk0), Result.andThen_ok, hr w, (tabOk_look hT he).run_size w, Sem.run_pure]
                  congr 2
                  split <;> rfl
          · rename_i m0 e hk0
            cases hx : ev l x with
            | none => rw [hx] at hk; exact hk.elim
            | some sx =>
              rw [hx] at hk
              obtain ⟨ex, _⟩ := ev_sound hf hx
              split at hk <;> first | (exact hk.elim) | skip
              rename_i b off heq
              cases heq
              unfold sizeT at hk
              cases he : lookT T e with
              | none => rw [he] at hk; exact hk.elim
              | some te =>
                rw [he] at hk; simp only at hk
                obtain ⟨i, j, m, hr, hK, h0⟩ := sliceAt_sound (P := P) false m0 m0 hf h1 h2 h3 hk
                refine step_freeV (run _ _ ex (fun w => ?_)) d (dst b off i j m te.sz h0 hK)
                unfold Instr.sliceAt
                simp only [Sem.run_bind, run_underlying (hty.arr hk0), Result.andThen_ok, SV.val, Instr.sureAddr, Sem.run_pure, hr w, (tabOk_look hT he).run_size w]
          · rename_i hk0
            cases hx : ev l x with
            | none => rw [hx] at hk; exact hk.elim
            | some sx =>
              rw [hx] at hk
              obtain ⟨ex, _⟩ := ev_sound hf hx
              split at hk <;> first | (exact hk.elim) | skip
              rename_i s heq
              cases heq
              split at hk <;> first | (exact hk.elim) | skip
              obtain ⟨i, j, m, hr, hK, h0⟩ := sliceAt_sound (P := P) false s.size s.size hf h1 h2 h3 hk
              refine step_freeV (run _ _ ex (fun w => ?_)) d hK
              have hmx : mx.map a.eval = none := by
                rcases boundI_sound hf h3 with ⟨_, e3⟩ | ⟨_, _, h', _⟩
                · exact e3
                · cases h'
              unfold Instr.sliceAt
              simp only [Sem.run_bind, run_underlying (hty.str hk0), Result.andThen_ok, SV.val]
              unfold Instr.slice
              have hr' := hr w
              rw [hmx] at hr'
              simp only [Sem.run_bind, run_underlying (hty.str hk0), Result.andThen_ok, hmx, Option.isSome_none, Bool.false_eq_true, if_false, hr', Sem.run_pure]
end
end Go.Eng
