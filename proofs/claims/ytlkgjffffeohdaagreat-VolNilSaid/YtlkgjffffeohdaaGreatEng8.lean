/- The engine is sound, part seven: elements, conversions, functions, append, copy, ranges. -/
import Derived.Test.YtlkgjffffeohdaaGreatEng7
import Derived.Laws.BytesString
set_option linter.unusedVariables false
set_option linter.unusedSimpArgs false
namespace Go.Eng
open Go

section
variable {P : Program} {T : Tab} {n : Nat} {w0 : World} {H0 : HV} {M : Nat → Prop} {l : Env} {h : List LB} {H : HV} {a : Act} {w : World} {o : Oper} {K : KS}

theorem stop_indexAddr (hT : tabOk P T = true) (hf : Fr n l h a) (d : Desc w0 H0 M h H w) {t : TypeId} {x i : Operand} (hop : o.op = .indexAddr t x i)
    (hk : exStop P T w0.heap.size M (Desc w0 H0 M) (.indexAddr t x i) l h H K) : StepC P w0 H0 M h o a w K .free := by
  simp only [exStop] at hk
  cases ht : lookT T t with
  | none => rw [ht] at hk; exact hk.elim
  | some ti =>
    rw [ht] at hk; simp only at hk
    have hty := tabOk_look hT ht
    cases hi : ev l i with
    | none => rw [hi] at hk; exact hk.elim
    | some si =>
      rw [hi] at hk
      split at hk <;> first | (exact hk.elim) | skip
      rename_i ki m heq
      cases heq
      have ei : a.eval i = .int ki m := (ev_sound hf hi).1
      split at hk <;> first | (exact hk.elim) | skip
      · rename_i e hk0
        cases hx : ev l x with
        | none => rw [hx] at hk; exact hk.elim
        | some sx =>
          rw [hx] at hk
          split at hk <;> first | (exact hk.elim) | skip
          rename_i b off ln cp heq
          cases heq
          have ex : a.eval x = .slice (some ⟨b, off, none⟩) ln cp := (ev_sound hf hx).1
          obtain ⟨hb, hk⟩ := hk
          unfold sizeT at hk
          cases he : lookT T e with
          | none => rw [he] at hk; exact hk.elim
          | some te =>
            rw [he] at hk; simp only at hk
            refine step_freeV (fun w => ?_) d hk
            unfold execOp
            simp only [hop, ex, ei, Instr.indexAt, asIntOf, Sem.run_bind, Sem.run_pure, Result.andThen_ok, run_underlying (hty.slc hk0)]
            by_cases hl : decide (ln ≤ 1) = true
            · simp only [hl, Bool.true_and, Sem.run_bind, run_underlying (hty.slc hk0), Result.andThen_ok, Sem.run_pure]
              rw [if_pos hb]
              simp only [Sem.run_bind, (tabOk_look hT he).run_size w, Result.andThen_ok, Sem.run_pure, add_addr]
            · simp only [hl, Bool.false_and, Sem.run_bind, run_underlying (hty.slc hk0), Result.andThen_ok, Sem.run_pure]
              rw [if_pos hb]
              simp only [Sem.run_bind, (tabOk_look hT he).run_size w, Result.andThen_ok, Sem.run_pure, add_addr]
      · rename_i m0 e hk0
        cases hx : ev l x with
        | none => rw [hx] at hk; exact hk.elim
        | some sx =>
          rw [hx] at hk
          split at hk <;> first | (exact hk.elim) | skip
          rename_i b off heq
          cases heq
          have ex : a.eval x = .pointer (some ⟨b, off, none⟩) := (ev_sound hf hx).1
          obtain ⟨hb, hk⟩ := hk
          unfold sizeT at hk
          cases he : lookT T e with
          | none => rw [he] at hk; exact hk.elim
          | some te =>
            rw [he] at hk; simp only at hk
            refine step_freeV (fun w => ?_) d hk
            unfold execOp
            simp only [hop, ex, ei, Instr.indexAt, asIntOf, Sem.run_bind, Sem.run_pure, Result.andThen_ok, run_underlying (hty.arr hk0), Instr.sureAddr]
            rw [if_pos hb]
            simp only [Sem.run_bind, (tabOk_look hT he).run_size w, Result.andThen_ok, Sem.run_pure, add_addr]

theorem stop_index (hT : tabOk P T = true) (hf : Fr n l h a) (d : Desc w0 H0 M h H w) {t : TypeId} {x i : Operand} (hop : o.op = .index t x i)
    (hk : exStop P T w0.heap.size M (Desc w0 H0 M) (.index t x i) l h H K) : StepC P w0 H0 M h o a w K .free := by
  simp only [exStop] at hk
  cases ht : lookT T t with
  | none => rw [ht] at hk; exact hk.elim
  | some ti =>
    rw [ht] at hk; simp only at hk
    have hty := tabOk_look hT ht
    cases hi : ev l i with
    | none => rw [hi] at hk; exact hk.elim
    | some si =>
      rw [hi] at hk
      split at hk <;> first | (exact hk.elim) | skip
      rename_i ki m heq
      cases heq
      have ei : a.eval i = .int ki m := (ev_sound hf hi).1
      split at hk <;> first | (exact hk.elim) | skip
      · rename_i m0 e hk0
        cases hx : ev l x with
        | none => rw [hx] at hk; exact hk.elim
        | some sx =>
          rw [hx] at hk
          split at hk <;> first | (exact hk.elim) | skip
          rename_i vs heq
          cases heq
          have ex : a.eval x = .agg vs := (ev_sound hf hx).1
          cases he : lookT T e with
          | none => rw [he] at hk; exact hk.elim
          | some te =>
            rw [he] at hk; simp only at hk
            obtain ⟨hb, hk⟩ := hk
            have run : ∀ v, (∀ w, (part e vs (m.toNat * te.sz)).run P w = .ok v w) → ∀ w, (execOp a.eval o).run P w = .ok (.value v) w := by
              intro v hv w
              unfold execOp
              simp only [hop, ex, ei, Instr.index, asIntOf, Sem.run_bind, Sem.run_pure, Result.andThen_ok, run_underlying (hty.arr hk0)]
              rw [if_pos hb]
              simp only [Sem.run_bind, (tabOk_look hT he).run_size w, Result.andThen_ok, hv w, Sem.run_pure]
            split at hk
            · rename_i hag
              obtain ⟨v, hv, hK⟩ := hk
              refine step_freeV (run v (fun w => ?_)) d hK
              unfold part
              simp only [Sem.run_bind, (tabOk_look hT he).run_agg w, Result.andThen_ok, hag, Bool.false_eq_true, if_false, hv, Sem.run_pure]
            · rename_i hag
              refine step_freeV (run _ (fun w => ?_)) d hk
              unfold part
              simp only [Sem.run_bind, (tabOk_look hT he).run_agg w, Result.andThen_ok, hag, if_true, (tabOk_look hT he).run_size w, Sem.run_pure]
      · rename_i hk0
        cases hx : ev l x with
        | none => rw [hx] at hk; exact hk.elim
        | some sx =>
          rw [hx] at hk
          split at hk <;> first | (exact hk.elim) | skip
          rename_i s heq
          cases heq
          have ex : a.eval x = .string s := (ev_sound hf hx).1
          obtain ⟨hb, hk⟩ := hk
          refine step_freeV (fun w => ?_) d hk
          unfold execOp
          have hlt : m.toNat < s.data.size := by have := hb.2; show m.toNat < s.size; omega
          have hg : s[m.toNat]? = some (s.data.getD m.toNat 0) := by
            show (if h : m.toNat < s.size then some (s[m.toNat]'h) else none) = _
            have hlt' : m.toNat < s.size := hlt
            rw [dif_pos hlt']
            simp only [Array.getD, hlt, dif_pos]
            rfl
          simp only [hop, ex, ei, Instr.index, asIntOf, Sem.run_bind, Sem.run_pure, Result.andThen_ok, run_underlying (hty.str hk0), if_pos hb.1, hg]

theorem stop_binOp (hT : tabOk P T = true) (hf : Fr n l h a) (d : Desc w0 H0 M h H w) {op : BinOp} {t t2 : TypeId} {x y : Operand} (hop : o.op = .binOp op t x y t2)
    (hk : exStop P T w0.heap.size M (Desc w0 H0 M) (.binOp op t x y t2) l h H K) : StepC P w0 H0 M h o a w K .free := by
  simp only [exStop] at hk
  cases hx : ev l x with
  | none => rw [hx] at hk; exact hk.elim
  | some sx =>
    rw [hx] at hk
    obtain ⟨ex, _⟩ := ev_sound hf hx
    split at hk <;> first | (exact hk.elim) | skip
    · rename_i k m heq
      cases heq
      cases hy : ev l y with
      | none => rw [hy] at hk; exact hk.elim
      | some sy =>
        rw [hy] at hk
        obtain ⟨ey, _⟩ := ev_sound hf hy
        split at hk <;> first | (exact hk.elim) | skip
        rename_i k' m' heq
        cases heq
        split at hk <;> first | (exact hk.elim) | skip
        · split at hk <;> first | (exact hk.elim) | skip
          rename_i hkk
          have := of_decide_eq_true hkk
          subst this
          obtain ⟨hb, hk⟩ := hk
          exact step_freeV (fun w => run_binOp hop ex ey rfl (by simp [SV.val, binOp, Op.intDiv, hb])) d hk
        · split at hk <;> first | (exact hk.elim) | skip
          rename_i hkk
          have := of_decide_eq_true hkk
          subst this
          obtain ⟨hb, hk⟩ := hk
          exact step_freeV (fun w => run_binOp hop ex ey rfl (by simp [SV.val, binOp, Op.intDiv, hb])) d hk
        · obtain ⟨hb, hk⟩ := hk
          have hb' : ¬ m' < 0 := by omega
          exact step_freeV (fun w => run_binOp hop ex ey rfl (by simp [SV.val, binOp, Op.shift, hb'])) d hk
        · obtain ⟨hb, hk⟩ := hk
          have hb' : ¬ m' < 0 := by omega
          exact step_freeV (fun w => run_binOp hop ex ey rfl (by simp [SV.val, binOp, Op.shift, hb'])) d hk
    · rename_i xs heq
      cases heq
      cases hy : ev l y with
      | none => rw [hy] at hk; exact hk.elim
      | some sy =>
        rw [hy] at hk
        obtain ⟨ey, _⟩ := ev_sound hf hy
        split at hk <;> first | (exact hk.elim) | skip
        rename_i ys heq
        cases heq
        have ex' : a.eval x = .agg xs := ex
        have ey' : a.eval y = .agg ys := ey
        split at hk <;> first | (exact hk.elim) | skip
        · obtain ⟨hg, b, hb, hk⟩ := hk
          refine step_freeV (fun w => ?_) d hk
          unfold execOp
          simp only [hop, ex', ey', Sem.run_bind, hg w, Result.andThen_ok, binOp, hb w, Sem.run_pure]
        · obtain ⟨hg, b, hb, hk⟩ := hk
          refine step_freeV (fun w => ?_) d hk
          unfold execOp
          simp only [hop, ex', ey', Sem.run_bind, hg w, Result.andThen_ok, binOp, hb w, Sem.run_pure]
    · rename_i pa heq
      cases heq
      cases hy : ev l y with
      | none => rw [hy] at hk; exact hk.elim
      | some sy =>
        rw [hy] at hk
        obtain ⟨ey, _⟩ := ev_sound hf hy
        split at hk <;> first | (exact hk.elim) | skip
        rename_i pb heq
        cases heq
        obtain ⟨v, hv, hk⟩ := hk
        exact step_freeV (fun w => run_binOp hop ex ey rfl (hv w)) d hk
    · rename_i s heq
      cases heq
      cases hy : ev l y with
      | none => rw [hy] at hk; exact hk.elim
      | some sy =>
        rw [hy] at hk
        obtain ⟨ey, _⟩ := ev_sound hf hy
        split at hk <;> first | (exact hk.elim) | skip
        rename_i s' heq
        cases heq
        split at hk <;> first | (exact hk.elim) | skip
        obtain ⟨hb, hk⟩ := hk
        refine step_freeV (fun w => run_binOp hop ex ey rfl ?_) d hk
        have : ¬ (((s.size + s'.size : Nat) : Int) > IntKind.i64.max) := by
          have : IntKind.i64.max = 9223372036854775807 := by decide
          rw [this]; omega
        simp only [SV.val, binOp, Op.stringOp]
        rw [if_neg this]
        rfl

theorem stop_s2ap (hT : tabOk P T = true) (hf : Fr n l h a) (d : Desc w0 H0 M h H w) {t : TypeId} {x : Operand} (hop : o.op = .sliceToArrayPointer t x)
    (hk : exStop P T w0.heap.size M (Desc w0 H0 M) (.sliceToArrayPointer t x) l h H K) : StepC P w0 H0 M h o a w K .free := by
  simp only [exStop] at hk
  cases ht : lookT T t with
  | none => rw [ht] at hk; exact hk.elim
  | some ti =>
    rw [ht] at hk; simp only at hk
    split at hk <;> first | (exact hk.elim) | skip
    rename_i m e hk0
    cases hx : ev l x with
    | none => rw [hx] at hk; exact hk.elim
    | some sx =>
      rw [hx] at hk
      split at hk <;> first | (exact hk.elim) | skip
      rename_i ad ln cp heq
      cases heq
      have ex : a.eval x = .slice ad ln cp := (ev_sound hf hx).1
      obtain ⟨hb, hk⟩ := hk
      refine step_freeV (fun w => ?_) d hk
      unfold execOp
      simp only [hop, ex, Instr.arrayAt, Sem.run_bind, run_underlying ((tabOk_look hT ht).arr hk0), Result.andThen_ok]
      rw [if_neg (by omega)]
      rfl

theorem stop_makeFunc (hf : Fr n l h a) (d : Desc w0 H0 M h H w) {fn : Fn} {fi ca : Array Operand} (hop : o.op = .makeFunc fn fi ca)
    (hk : exStop P T w0.heap.size M (Desc w0 H0 M) (.makeFunc fn fi ca) l h H K) : StepC P w0 H0 M h o a w K .free := by
  simp only [exStop] at hk
  cases h1 : evs l fi.toList with
  | none => rw [h1] at hk; exact hk.elim
  | some fs =>
    cases h2 : evs l ca.toList with
    | none => rw [h1, h2] at hk; exact hk.elim
    | some cs =>
      rw [h1, h2] at hk; simp only at hk
      obtain ⟨e1, o1⟩ := evs_sound hf h1
      obtain ⟨e2, o2⟩ := evs_sound hf h2
      obtain ⟨h3, H3, l3, d3, hk⟩ := expos_sound fs d o1 hk
      obtain ⟨h4, H4, l4, d4, hk⟩ := expos_sound cs d3 (fun s hs => l3 s (o2 s hs)) hk
      refine ⟨.v (.func fn ⟨fs.map SV.val⟩ ⟨cs.map SV.val⟩), fun w => ?_, h4, H4, trivial, l3.trans l4, d4, hk⟩
      unfold execOp
      have e1' : fi.map a.eval = ⟨fs.map SV.val⟩ := by apply Array.ext'; simpa using e1
      have e2' : ca.map a.eval = ⟨cs.map SV.val⟩ := by apply Array.ext'; simpa using e2
      simp only [hop, e1', e2', Instr.makeFunc, Sem.run_bind, Sem.run_pure, Result.andThen_ok]
      rfl

/-! ### what a slice or a string holds -/
theorem rdS_run (d : Desc w0 H0 M h H w) {sz m : Nat} {v : Value} {vs : List Value} (hr : RdS H sz m v vs) : (Builtin.firstCells sz m v).run P w = .ok ⟨vs⟩ w := by
  unfold RdS at hr
  split at hr
  · obtain ⟨arr, ty, fr, hb, hl, rfl⟩ := hr
    simp only [Builtin.firstCells, run_loadCells_block (d.sub _ _ hb) hl, Array.toArray_toList]
  · subst hr; rfl
  · subst hr
    simp only [Builtin.firstCells, Sem.run_pure, Array.toArray_toList]
  · exact hr.elim

theorem fold_bytes : ∀ (bs : List UInt8) (s : ByteArray), (bs.map fun b => ((b.toNat : Int))).foldl (fun r n => r.push (UInt8.ofNat n.toNat)) s = ⟨s.data ++ bs.toArray⟩
  | [], s => by simp
  | b :: bs, s => by
    simp only [List.map_cons, List.foldl_cons]
    rw [fold_bytes bs]
    congr 1
    simp [ByteArray.push]

theorem heap_alloc_freeze (w : World) (c : Array Value) (e : TypeId) (i : Nat) : ((w.alloc (.cells c e)).freeze ⟨w.heap.size, c.size, none⟩ 1).heap[i]? = (w.alloc (.cells c e (c.size, c.size + 1))).heap[i]? := by
  simp only [World.freeze, World.alloc, Nat.one_ne_zero, if_false, Array.getElem?_modify, Array.getElem?_push]
  by_cases hi : i = w.heap.size
  · subst hi; simp
  · rw [if_neg (fun e => hi e.symm), if_neg hi, if_neg hi]

theorem freeze_eq (w : World) (c : Array Value) (e : TypeId) : (w.alloc (.cells c e)).freeze ⟨w.heap.size, c.size, none⟩ 1 = w.alloc (.cells c e (c.size, c.size + 1)) := by
  have : ((w.alloc (.cells c e)).freeze ⟨w.heap.size, c.size, none⟩ 1).heap = (w.alloc (.cells c e (c.size, c.size + 1))).heap := by
    apply Array.ext_getElem?
    exact heap_alloc_freeze w c e
  have h2 : (w.alloc (.cells c e)).freeze ⟨w.heap.size, c.size, none⟩ 1 = { w.alloc (.cells c e) with heap := ((w.alloc (.cells c e)).freeze ⟨w.heap.size, c.size, none⟩ 1).heap } := by
    simp only [World.freeze, Nat.one_ne_zero, if_false]
  rw [h2, this]
  rfl

theorem stop_convert (hT : tabOk P T = true) (hf : Fr n l h a) (d : Desc w0 H0 M h H w) {src dst : TypeId} {x : Operand} (hop : o.op = .convert src dst x)
    (hk : exStop P T w0.heap.size M (Desc w0 H0 M) (.convert src dst x) l h H K) : StepC P w0 H0 M h o a w K (clsT T (.convert src dst x)) := by
  simp only [exStop] at hk
  cases hs : lookT T src with
  | none => rw [hs] at hk; exact hk.elim
  | some ts =>
    cases hd : lookT T dst with
    | none => rw [hs, hd] at hk; exact hk.elim
    | some td =>
      rw [hs, hd] at hk; simp only at hk
      have htys := tabOk_look hT hs
      have htyd := tabOk_look hT hd
      split at hk <;> first | (exact hk.elim) | skip
      · rename_i e hk0
        have hcls : clsT T (.convert src dst x) = .read := by simp only [clsT, hs, hk0]
        rw [hcls]
        split at hk <;> first | (exact hk.elim) | skip
        rename_i hk1
        cases he : lookT T e with
        | none => rw [he] at hk; exact hk.elim
        | some te =>
          rw [he] at hk; simp only at hk
          split at hk <;> first | (exact hk.elim) | skip
          rename_i hk2
          cases hx : ev l x with
          | none => rw [hx] at hk; exact hk.elim
          | some sx =>
            rw [hx] at hk
            split at hk <;> first | (exact hk.elim) | skip
            rename_i ad ln cp heq
            cases heq
            have ex : a.eval x = .slice ad ln cp := (ev_sound hf hx).1
            obtain ⟨bs, hbs, hrd, hK⟩ := hk
            refine step_readV ?_ d hK
            unfold execOp
            have hcv : (convert src dst (.slice ad ln cp)).run P w = .ok (.string ⟨bs.toArray⟩) w := by
              rw [run_convert_bytes_string w src dst e ad ln cp (htys.slc hk0) ((tabOk_look hT he).int hk2) (htyd.str hk1)]
              cases ad with
              | none =>
                have : bs = [] := by
                  have : bytesV bs = [] := hrd
                  simpa [bytesV] using this
                subst this; rfl
              | some ad =>
                have hfc := rdS_run (P := P) d hrd
                simp only [Builtin.firstCells, Nat.mul_one] at hfc
                rw [run_bytesToString w ad ln cp (bs.map fun b => (b.toNat : Int)) (by rw [hfc]; congr 2; simp [bytesV])]
                rw [fold_bytes]
                congr 3
                simp
            simp only [hop, ex, Sem.run_bind, hcv, Result.andThen_ok, Sem.run_pure]
      · rename_i hk0
        split at hk <;> first | (exact hk.elim) | skip
        · rename_i e hk1
          have hcls : clsT T (.convert src dst x) = .main := by simp only [clsT, hs, hk0, hd, hk1]
          rw [hcls]
          cases he : lookT T e with
          | none => rw [he] at hk; exact hk.elim
          | some te =>
            rw [he] at hk; simp only at hk
            split at hk <;> first | (exact hk.elim) | skip
            rename_i hk2
            cases hx : ev l x with
            | none => rw [hx] at hk; exact hk.elim
            | some sx =>
              rw [hx] at hk
              split at hk <;> first | (exact hk.elim) | skip
              rename_i s heq
              cases heq
              have ex : a.eval x = .string s := (ev_sound hf hx).1
              have hge := grownCap_ge w s.size 0 e
              have hk' := hk (grownCap w s.size 0 e) hge
              obtain ⟨H2, d2, hK⟩ := newExt_sound d.drew hk'
              have hcells : (bytesV s.data.toList ++ zeroL (grownCap w s.size 0 e - s.size) [.int .u8 0]).toArray = Lib.bytesCells w e s := by
                apply Array.ext'
                unfold Lib.bytesCells
                simp [bytesV, zeroL]
              have hsize : (Lib.bytesCells w e s).size = grownCap w s.size 0 e := by
                unfold Lib.bytesCells
                simp
                have : s.data.size = s.size := rfl
                omega
              refine step_main (s := .v (.slice (some ⟨w.heap.size, 0, none⟩) s.size (grownCap w s.size 0 e))) ?_ ⟨h, H2, trivial, LBle.refl h, d2, hK⟩
              unfold execOp
              have := Lib.run_convert_string_bytes (P := P) w src dst e s (htys.str hk0) (htyd.slc hk1) ((tabOk_look hT he).int hk2)
              simp only [hop, ex, Sem.run_bind, this, Result.andThen_ok, Sem.run_pure]
              congr 1
              unfold Lib.bytesWorld
              have := freeze_eq w.drew (Lib.bytesCells w e s) e
              rw [hcells]
              rw [show w.drew.heap.size = w.heap.size from rfl] at this
              rw [this, hsize]
        · rename_i hk1
          have hcls : clsT T (.convert src dst x) = .free := by simp only [clsT, hs, hk0, hd, hk1]
          rw [hcls]
          cases hx : ev l x with
          | none => rw [hx] at hk; exact hk.elim
          | some sx =>
            rw [hx] at hk
            split at hk <;> first | (exact hk.elim) | skip
            rename_i s heq
            cases heq
            have ex : a.eval x = .string s := (ev_sound hf hx).1
            refine step_freeV (fun w => ?_) d hk
            unfold execOp
            have : (convert src dst (.string s)).run P w = .ok (.string s) w := by
              unfold convert
              simp only [Sem.run_bind, run_underlying (htys.str hk0), run_underlying (htyd.str hk1), Result.andThen_ok, Sem.run_pure]
            simp only [hop, ex, Sem.run_bind, this, Result.andThen_ok, Sem.run_pure]

theorem stop_call (hf : Fr n l h a) (d : Desc w0 H0 M h H w) {c : Call} (hop : o.op = .call c) {f : Operand} (hc : c.callee = .value f)
    (hk : exStop P T w0.heap.size M (Desc w0 H0 M) (.call c) l h H K) :
    StepC P w0 H0 M h o a w K .main := by
  obtain ⟨callee, args, ats⟩ := c
  simp only at hc
  subst hc
  simp only [exStop] at hk
  cases hfv : ev l f with
  | none => rw [hfv] at hk; exact hk.elim
  | some sf =>
    rw [hfv] at hk
    split at hk <;> first | (exact hk.elim) | skip
    rename_i g fi ca heq
    cases heq
    have ef : a.eval f = .func (.func g) ⟨fi⟩ ⟨ca⟩ := (ev_sound hf hfv).1
    cases h1 : evs l args.toList with
    | none => rw [h1] at hk; exact hk.elim
    | some ss =>
      rw [h1] at hk; simp only at hk
      obtain ⟨e1, o1⟩ := evs_sound hf h1
      obtain ⟨h3, H3, l3, d3, hk⟩ := expos_sound ss d o1 hk
      obtain ⟨fn, hfn, hname, hb⟩ : ∃ fn, P.funcs[g]? = some fn ∧ fn.name ≠ "runtime.NumGoroutine" ∧ fn.body.isNone = false := by
        have := hk.has
        unfold hasB at this
        split at this
        · rename_i fn hfn
          simp at this
          exact ⟨fn, hfn, this.1, by simpa using this.2⟩
        · cases this
      have hrun : (execOp a.eval o).run P w = .ok (.enter g (fi ++ (ss.map SV.val ++ ca)).toArray) w := by
        unfold execOp
        have e1' : args.map a.eval = ⟨ss.map SV.val⟩ := by apply Array.ext'; simpa using e1
        simp only [hop, resolve, e1', ef, Deferred.ofValue, Sem.run_bind, Sem.run_pure, Result.andThen_ok, invoke, callFunc, run_program, hfn]
        have hn' : (fn.name == "runtime.NumGoroutine") = false := by simpa using hname
        simp only [hn', hb, Bool.false_eq_true, if_false, Sem.run_pure]
        congr 2
        apply Array.ext'
        simp
      show o.wp P a w _ _
      unfold Oper.wp
      rw [hrun]
      simp only [Oper.upon]
      refine (hk.out w d3).mono ?_
      rintro e w' ⟨v, H4, rfl, d4, hK⟩
      exact ⟨.v v, rfl, h3, H4, trivial, l3, d4, hK⟩
end
end Go.Eng
