/- The engine, part fourteen: structs and arrays that are compared. -/
import Derived.Test.YtlkgjffffeohdaaGreatEngD
import Derived.DeepKeys
import Derived.Laws.StructEq
import Derived.ChangeKeysEq
set_option linter.unusedVariables false
namespace Go.Eng

open Classical
open Go

theorem eq_guard {P : Program} {op : BinOp} {t : TypeId} {x y : Operand} {xs ys : Array Value} (hm : P.eqGuardType P.depth t = false) : ∀ w : World, (eqGuard op t x y (.agg xs) (.agg ys)).run P w = .ok () w :=
  fun w => run_eqGuard_agg w op t x y xs ys hm

/-- whole numbers of some kinds -/
inductive KV : List IntKind → List Value → Prop
  | nil : KV [] []
  | cons {k : IntKind} {n : Int} {ks : List IntKind} {vs : List Value} : KV ks vs → KV (k :: ks) (.int k n :: vs)

theorem KV.length {ks : List IntKind} {vs : List Value} (h : KV ks vs) : vs.length = ks.length := by
  induction h with
  | nil => rfl
  | cons _ ih => simp [ih]

theorem KV_bytes (bs : List UInt8) : KV (List.replicate bs.length .u8) (bytesV bs) := by
  induction bs with
  | nil => exact .nil
  | cons b bs ih => exact ih.cons

theorem KV.split {ks1 ks2 : List IntKind} {vs : List Value} (h : KV (ks1 ++ ks2) vs) : KV ks1 (vs.take ks1.length) ∧ KV ks2 (vs.drop ks1.length) := by
  induction ks1 generalizing vs with
  | nil => exact ⟨.nil, h⟩
  | cons k ks ih =>
    cases h with
    | cons h => exact ⟨.cons (ih h).1, (ih h).2⟩

theorem takeV_some : ∀ (o n : Nat) (vs : List Value), o + n ≤ vs.length → takeV o n vs = some ((vs.drop o).take n)
  | o, 0, vs, h => by cases vs <;> cases o <;> simp [takeV]
  | 0, n + 1, [], h => by simp at h
  | o + 1, n + 1, [], h => by simp at h
  | 0, n + 1, v :: vs, h => by
    simp only [List.length_cons] at h
    simp only [takeV, takeV_some 0 n vs (by omega)]
    simp
  | o + 1, n + 1, v :: vs, h => by
    simp only [List.length_cons] at h
    simp only [takeV, takeV_some o (n + 1) vs (by omega)]
    simp

def aggV : Bool → List Value → Value
  | true, vs => .agg ⟨vs⟩
  | false, v :: _ => v
  | false, [] => undef

structure EqF (P : Program) (d : Nat) (t : TypeId) (agg : Bool) (ks : List IntKind) : Prop where
  n : P.cellsOf t = ks.length
  part : ∀ (w : World) (xs : Array Value) (off : Nat) (vs : List Value), (xs.toList.drop off).take ks.length = vs → KV ks vs → (part t xs off).run P w = .ok (aggV agg vs) w
  eq : ∀ (w : World) (vs us : List Value), KV ks vs → KV ks us → (Op.equalIn d t (aggV agg vs) (aggV agg us)).run P w = .ok (decide (vs = us)) w

def intT (P : Program) (t : TypeId) : Bool := (match P.underlying t with | some (.int _) => true | _ => false) && Nat.beq (P.cellsOf t) 1

theorem EqF_intB {P : Program} {t : TypeId} {k : IntKind} (h : intT P t = true) (d : Nat) : EqF P (d + 1) t false [k] := by
  simp only [intT, Bool.and_eq_true, Nat.beq_eq] at h
  obtain ⟨h1, h2⟩ := h
  obtain ⟨q, hu⟩ : ∃ q, P.underlying t = some (.int q) := by
    split at h1
    · exact ⟨_, by assumption⟩
    · cases h1
  have hp : P.plainKey t = true := by simp [Program.plainKey, hu]
  refine ⟨h2, fun w xs off vs he hk => ?_, fun w vs us hv hu' => ?_⟩
  · cases hk with
    | cons hk => cases hk; exact run_part_plain w hp (getElem?_of_chunk he)
  · cases hv with
    | cons hv => cases hv; cases hu' with
      | cons hu' =>
        cases hu'
        rename_i a b
        rw [show aggV false [Value.int k a] = .int k a from rfl, show aggV false [Value.int k b] = .int k b from rfl, run_equalIn_int w d t k q a b hu]
        congr 1
        by_cases hab : a = b
        · subst hab; simp
        · rw [decide_eq_false (by simpa using hab)]; simpa using hab

theorem run_part_agg {P : Program} {t : TypeId} {off : Nat} {xs : Array Value} {vs : List Value} {kd : TypeDesc} (w : World) (hu : P.underlying t = some kd) (hk : (∃ n e', kd = .array n e') ∨ (∃ fs, kd = .struct fs))
    (h : (xs.toList.drop off).take (P.cellsOf t) = vs) : (part t xs off).run P w = .ok (.agg ⟨vs⟩) w := by
  obtain ⟨i, hi⟩ := info_of_underlying hu
  have hl : xs.extract off (off + P.cellsOf t) = ⟨vs⟩ := by
    apply Array.toList_inj.mp
    rw [Array.toList_extract]
    rw [← h]
    simp [List.extract_eq_take_drop]
  rcases hk with ⟨n, e', rfl⟩ | ⟨fs, rfl⟩ <;> simp [part, isAgg, run_underlying hu, run_sizeOf w hi, hl]

abbrev FT := TypeId × Bool × List IntKind

def fieldsT : Nat → List Field → List FT → Bool
  | _, [], [] => true
  | o, f :: fs, (t, _, ks) :: r => Nat.beq f.type t && (Nat.beq f.offset o && (f.name != "_" && fieldsT (o + ks.length) fs r))
  | _, _, _ => false

def ksOf (L : List FT) : List IntKind := L.flatMap (·.2.2)

def structT (P : Program) (t : TypeId) (L : List FT) : Bool :=
  match P.underlying t with
  | some (.struct fs) => fieldsT 0 fs.toList L && (Nat.beq (P.cellsOf t) (ksOf L).length && !P.stoodInHeld t)
  | _ => false

def allF (P : Program) (d : Nat) : List FT → Prop
  | [] => True
  | (t, a, ks) :: r => EqF P d t a ks ∧ allF P d r

theorem eqFields_run {P : Program} {d : Nat} (w : World) (xs ys : Array Value) : ∀ (fs : List Field) (L : List FT) (o : Nat), fieldsT o fs L = true → allF P d L → KV (ksOf L) (xs.toList.drop o) → KV (ksOf L) (ys.toList.drop o) →
    (Op.eqFields d xs ys fs).run P w = .ok (decide (xs.toList.drop o = ys.toList.drop o)) w
  | [], [], o, _, _, hx, hy => by
    have e1 : xs.toList.drop o = [] := List.length_eq_zero_iff.1 hx.length
    have e2 : ys.toList.drop o = [] := List.length_eq_zero_iff.1 hy.length
    rw [e1, e2]
    simp [Op.eqFields]
  | f :: fs, (t, a, ks) :: r, o, h, hf, hx, hy => by
    simp only [fieldsT, Bool.and_eq_true, Nat.beq_eq] at h
    obtain ⟨h1, h2, h3, h4⟩ := h
    obtain ⟨hF, hr⟩ := hf
    have ek : ksOf ((t, a, ks) :: r) = ks ++ ksOf r := rfl
    rw [ek] at hx hy
    obtain ⟨x1, x2⟩ := hx.split
    obtain ⟨y1, y2⟩ := hy.split
    rw [List.drop_drop] at x2 y2
    have ih := eqFields_run w xs ys fs r (o + ks.length) h4 hr x2 y2
    have hn : f.name ≠ "_" := by simpa using h3
    have p1 := hF.part w xs o _ rfl x1
    have p2 := hF.part w ys o _ rfl y1
    have p3 := hF.eq w _ _ x1 y1
    have tk : xs.toList.drop o = ys.toList.drop o ↔ (xs.toList.drop o).take ks.length = (ys.toList.drop o).take ks.length ∧ xs.toList.drop (o + ks.length) = ys.toList.drop (o + ks.length) := by
      constructor
      · intro e; rw [← List.drop_drop, ← List.drop_drop, e]; exact ⟨rfl, rfl⟩
      · rintro ⟨e1, e2⟩
        rw [← List.take_append_drop ks.length (xs.toList.drop o), ← List.take_append_drop ks.length (ys.toList.drop o), List.drop_drop, List.drop_drop, e1, e2]
    simp only [Op.eqFields, hn, ne_eq, not_false_eq_true, if_true, h1, h2, Sem.run_bind, p1, p2, p3, Result.andThen_ok]
    by_cases e : (xs.toList.drop o).take ks.length = (ys.toList.drop o).take ks.length
    · simp only [decide_eq_true e, Bool.not_true, Bool.false_eq_true, if_false, ih]
      congr 1
      exact decide_eq_decide.2 ⟨fun h => tk.2 ⟨e, h⟩, fun h => (tk.1 h).2⟩
    · simp only [decide_eq_false e, Bool.not_false, if_true, Sem.run_pure]
      congr 1
      exact (decide_eq_false (fun h => e (tk.1 h).1)).symm
  | [], _ :: _, _, h, _, _, _ => by simp [fieldsT] at h
  | _ :: _, [], _, h, _, _, _ => by simp [fieldsT] at h

theorem EqF_structB {P : Program} {d : Nat} {t : TypeId} (L : List FT) (h : structT P t L = true) (hf : allF P d L) {ks : List IntKind} (hk : ksOf L = ks := by rfl) : EqF P (d + 1) t true ks := by
  subst hk
  unfold structT at h
  split at h
  · rename_i fs hu
    simp only [Bool.and_eq_true, Nat.beq_eq, Bool.not_eq_true'] at h
    obtain ⟨h1, h2, h3⟩ := h
    have hfo : P.fieldsOf t = fs := by unfold Program.fieldsOf; rw [hu]
    refine ⟨h2, fun w xs off vs he hk => run_part_agg w hu (.inr ⟨fs, rfl⟩) (by rw [h2]; exact he), fun w vs us hv hu' => ?_⟩
    rw [show aggV true vs = .agg ⟨vs⟩ from rfl, show aggV true us = .agg ⟨us⟩ from rfl, run_equalIn_struct w d t ⟨vs⟩ ⟨us⟩ (by rw [hfo]; exact hu) h3, hfo]
    have := eqFields_run w ⟨vs⟩ ⟨us⟩ fs.toList L 0 h1 hf (by simpa using hv) (by simpa using hu')
    simpa using this
  · cases h

def arrayT (P : Program) (t : TypeId) (n : Nat) (e : TypeId) : Bool :=
  match P.underlying t with
  | some (.array m e') => Nat.beq m n && (Nat.beq e' e && Nat.beq (P.cellsOf t) (n * P.cellsOf e))
  | _ => false

theorem eqItems_run {P : Program} {d : Nat} {e : TypeId} {a : Bool} {ks : List IntKind} (w : World) (hF : EqF P d e a ks) (xs ys : Array Value) : ∀ (n o : Nat), KV (List.replicate n ks).flatten (xs.toList.drop (o * ks.length)) → KV (List.replicate n ks).flatten (ys.toList.drop (o * ks.length)) →
    (Op.eqItems d e (P.cellsOf e) xs ys (List.range' o n)).run P w = .ok (decide (xs.toList.drop (o * ks.length) = ys.toList.drop (o * ks.length))) w
  | 0, o, hx, hy => by
    have e1 : xs.toList.drop (o * ks.length) = [] := List.length_eq_zero_iff.1 hx.length
    have e2 : ys.toList.drop (o * ks.length) = [] := List.length_eq_zero_iff.1 hy.length
    rw [e1, e2]
    simp [Op.eqItems]
  | n + 1, o, hx, hy => by
    rw [List.replicate_succ, List.flatten_cons] at hx hy
    obtain ⟨x1, x2⟩ := hx.split
    obtain ⟨y1, y2⟩ := hy.split
    have eo : (o + 1) * ks.length = o * ks.length + ks.length := by rw [Nat.add_mul, Nat.one_mul]
    rw [List.drop_drop, ← eo] at x2 y2
    have ih := eqItems_run w hF xs ys n (o + 1) x2 y2
    have p1 := hF.part w xs (o * ks.length) _ rfl x1
    have p2 := hF.part w ys (o * ks.length) _ rfl y1
    have p3 := hF.eq w _ _ x1 y1
    have tk : xs.toList.drop (o * ks.length) = ys.toList.drop (o * ks.length) ↔ (xs.toList.drop (o * ks.length)).take ks.length = (ys.toList.drop (o * ks.length)).take ks.length ∧ xs.toList.drop ((o + 1) * ks.length) = ys.toList.drop ((o + 1) * ks.length) := by
      rw [eo]
      constructor
      · intro e; rw [← List.drop_drop, ← List.drop_drop, e]; exact ⟨rfl, rfl⟩
      · rintro ⟨e1, e2⟩
        rw [← List.take_append_drop ks.length (xs.toList.drop (o * ks.length)), ← List.take_append_drop ks.length (ys.toList.drop (o * ks.length)), List.drop_drop, List.drop_drop, e1, e2]
    rw [hF.n] at ih ⊢
    simp only [List.range'_succ, Op.eqItems, Sem.run_bind, p1, p2, p3, Result.andThen_ok]
    by_cases e : (xs.toList.drop (o * ks.length)).take ks.length = (ys.toList.drop (o * ks.length)).take ks.length
    · simp only [decide_eq_true e, Bool.not_true, Bool.false_eq_true, if_false, ih]
      congr 1
      exact decide_eq_decide.2 ⟨fun h => tk.2 ⟨e, h⟩, fun h => (tk.1 h).2⟩
    · simp only [decide_eq_false e, Bool.not_false, if_true, Sem.run_pure]
      congr 1
      exact (decide_eq_false (fun h => e (tk.1 h).1)).symm

theorem EqF_arrayB {P : Program} {d : Nat} {t : TypeId} {n : Nat} {e : TypeId} {a : Bool} {ks : List IntKind} (h : arrayT P t n e = true) (hF : EqF P d e a ks) : EqF P (d + 1) t true (List.replicate n ks).flatten := by
  unfold arrayT at h
  split at h
  · rename_i m e' hu
    simp only [Bool.and_eq_true, Nat.beq_eq] at h
    obtain ⟨rfl, rfl, h2⟩ := h
    have hl : (List.replicate m ks).flatten.length = m * ks.length := by simp [List.length_flatten]
    refine ⟨by rw [h2, hF.n, hl], fun w xs off vs he hk => run_part_agg w hu (.inl ⟨_, _, rfl⟩) (by rw [h2, hF.n, ← hl]; exact he), fun w vs us hv hu' => ?_⟩
    obtain ⟨i, hi⟩ : ∃ i, P.info? e' = some i := by
      cases hi : P.info? e' with
      | some i => exact ⟨i, rfl⟩
      | none =>
        have hc : P.cellsOf e' = 0 := by unfold Program.cellsOf; rw [hi]; rfl
        have hk0 : ks = [] := List.length_eq_zero_iff.1 (by rw [← hF.n]; exact hc)
        subst hk0
        exfalso
        have hp := hF.part default #[] 0 [] (by simp) .nil
        have hu2 : P.underlying e' = none := by
          unfold Program.underlying
          rw [hi]
        simp [part, isAgg, underlying, hu2] at hp
    rw [show aggV true vs = .agg ⟨vs⟩ from rfl, show aggV true us = .agg ⟨us⟩ from rfl, run_equalIn_array w d ⟨vs⟩ ⟨us⟩ hu hi, List.range_eq_range']
    have := eqItems_run w hF ⟨vs⟩ ⟨us⟩ m 0 (by simpa using hv) (by simpa using hu')
    simpa using this
  · cases h

theorem eq_flat {P : Program} {D : Nat} {t : TypeId} {ks : List IntKind} {vs us : List Value} {b : Bool} (h : EqF P D t true ks) (hD : D = Op.maxDepth) (hv : KV ks vs) (hu : KV ks us) (hb : b = true ↔ vs = us) : ∀ w : World, (Op.equal t (.agg ⟨vs⟩) (.agg ⟨us⟩)).run P w = .ok b w := by
  intro w
  subst hD
  have := h.eq w vs us hv hu
  have e : decide (vs = us) = b := by
    rw [Bool.eq_iff_iff, decide_eq_true_iff]; exact hb.symm
  rw [e] at this
  exact this
end Go.Eng
