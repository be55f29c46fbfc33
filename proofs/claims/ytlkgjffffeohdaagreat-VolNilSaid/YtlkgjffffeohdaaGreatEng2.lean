/- The engine is sound, part one: types, cells, free operations. -/
import Derived.Test.YtlkgjffffeohdaaGreatEng1
set_option linter.unusedVariables false
set_option linter.unusedSimpArgs false
namespace Go.Eng
open Go

/-! ### lists -/
theorem nth_eq {α : Type} : ∀ (l : List α) (i : Nat), nth l i = l[i]?
  | [], i => by simp [nth]
  | s :: l, 0 => by simp [nth]
  | s :: l, i + 1 => by simp [nth, nth_eq l i]

theorem len_eq {α : Type} : ∀ l : List α, len l = l.length
  | [] => rfl
  | _ :: l => by simp [len, len_eq l]

theorem snoc_eq {α : Type} (x : α) : ∀ l : List α, snoc x l = l ++ [x]
  | [] => rfl
  | y :: l => by simp [snoc, snoc_eq x l]

theorem nth_snoc {α : Type} (x : α) (l : List α) (i : Nat) : nth (snoc x l) i = if i = l.length then some x else nth l i := by
  rw [snoc_eq, nth_eq, nth_eq]
  rcases Nat.lt_trichotomy i l.length with h | h | h
  · rw [List.getElem?_append_left h, if_neg (by omega)]
  · subst h; simp
  · rw [if_neg (by omega), List.getElem?_eq_none (by simp; omega), List.getElem?_eq_none (by omega)]

theorem setNth_eq {α : Type} (x : α) : ∀ (l : List α) (i : Nat), setNth x l i = l.set i x
  | [], _ => rfl
  | _ :: l, 0 => rfl
  | s :: l, i + 1 => by simp [setNth, setNth_eq x l i]

theorem nth_setNth {α : Type} (x : α) (l : List α) (i j : Nat) : nth (setNth x l i) j = if i = j ∧ i < l.length then some x else nth l j := by
  rw [setNth_eq, nth_eq, nth_eq, List.getElem?_set]
  by_cases h : i = j
  · subst h
    by_cases h2 : i < l.length
    · simp [h2]
    · simp [h2]
  · simp [h]

theorem nth_lt {α : Type} {l : List α} {i : Nat} {x : α} (h : nth l i = some x) : i < l.length := by
  rw [nth_eq] at h
  exact (List.getElem?_eq_some_iff.1 h).1

theorem takeV_eq : ∀ (l : List Value) (o n : Nat) (r : List Value), takeV o n l = some r → r = (l.drop o).take n ∧ r.length = n
  | l, o, 0, r, h => by
    cases l <;> cases o <;> simp [takeV] at h <;> subst h <;> simp
  | [], o, n + 1, r, h => by cases o <;> simp [takeV] at h
  | v :: l, 0, n + 1, r, h => by
    simp only [takeV] at h
    cases h1 : takeV 0 n l with
    | none => rw [h1] at h; cases h
    | some r' =>
      rw [h1] at h
      obtain ⟨e, hl⟩ := takeV_eq l 0 n r' h1
      simp at h; subst h
      simp at e hl ⊢
      exact ⟨e, hl⟩
  | v :: l, o + 1, n + 1, r, h => by
    simp only [takeV] at h
    obtain ⟨e, hl⟩ := takeV_eq l o (n + 1) r h
    simp only [List.drop_succ_cons]
    exact ⟨e, hl⟩

theorem setMany_size (vs : List Value) : ∀ (arr : Array Value) (off : Nat), (setMany arr off vs).size = arr.size := by
  induction vs with
  | nil => intros; rfl
  | cons v vs ih => intro arr off; simp [setMany, ih]

theorem setMany_get (vs : List Value) : ∀ (arr : Array Value) (off : Nat), off + vs.length ≤ arr.size → ∀ i,
    (setMany arr off vs)[i]? = if off ≤ i ∧ i < off + vs.length then vs[i - off]? else arr[i]? := by
  induction vs with
  | nil => intro arr off _ i; simp [setMany]; omega
  | cons v vs ih =>
    intro arr off h i
    simp only [List.length_cons] at h
    simp only [setMany]
    rw [ih _ _ (by simp; omega)]
    by_cases h1 : i = off
    · subst h1
      rw [if_neg (by omega), if_pos ⟨Nat.le_refl _, by simp⟩]
      simp [show i < arr.size by omega]
    · by_cases h2 : off + 1 ≤ i ∧ i < off + 1 + vs.length
      · rw [if_pos h2, if_pos (by simp only [List.length_cons]; omega)]
        rw [show i - off = (i - (off + 1)) + 1 from by omega]
        simp
      · rw [if_neg h2, if_neg (by simp only [List.length_cons]; omega)]
        rw [Array.getElem?_setIfInBounds_ne (by omega)]

theorem setFrom_len {α : Type} : ∀ (cs : List α) (off : Nat) (vs : List α), (setFrom cs off vs).length = cs.length
  | [], _, _ => rfl
  | s :: l, n + 1, vs => by simp [setFrom, setFrom_len l n vs]
  | s :: l, 0, [] => rfl
  | s :: l, 0, v :: vs => by simp [setFrom, setFrom_len l 0 vs]

theorem setFrom_get {α : Type} : ∀ (cs : List α) (off : Nat) (vs : List α), off + vs.length ≤ cs.length → ∀ i : Nat,
    (setFrom cs off vs)[i]? = if off ≤ i ∧ i < off + vs.length then vs[i - off]? else cs[i]?
  | [], off, vs, h, i => by
    simp only [List.length_nil] at h
    have : vs = [] := List.length_eq_zero_iff.1 (by omega)
    subst this
    simp [setFrom]
  | s :: l, n + 1, vs, h, i => by
    simp only [List.length_cons] at h
    cases i with
    | zero => simp [setFrom]
    | succ i =>
      simp only [setFrom, List.getElem?_cons_succ]
      rw [setFrom_get l n vs (by omega) i]
      by_cases hc : n ≤ i ∧ i < n + vs.length
      · rw [if_pos hc, if_pos (by omega), show i + 1 - (n + 1) = i - n from by omega]
      · rw [if_neg hc, if_neg (by omega)]
  | s :: l, 0, [], h, i => by
    simp only [setFrom, List.length_nil]
    rw [if_neg (by omega)]
  | s :: l, 0, v :: vs, h, i => by
    simp only [List.length_cons] at h
    cases i with
    | zero => simp [setFrom]
    | succ i =>
      simp only [setFrom, List.getElem?_cons_succ]
      rw [setFrom_get l 0 vs (by omega) i]
      simp only [Nat.zero_le, true_and, Nat.zero_add, List.length_cons, Nat.sub_zero, Nat.add_lt_add_iff_right, List.getElem?_cons_succ]

theorem setMany_setFrom (cs : List SV) (off : Nat) (ss : List SV) (h : off + ss.length ≤ cs.length) :
    ((setFrom cs off ss).map SV.val).toArray = setMany (cs.map SV.val).toArray off (ss.map SV.val) := by
  apply Array.ext_getElem?
  intro i
  rw [setMany_get _ _ _ (by simpa using h)]
  simp only [List.getElem?_toArray, List.getElem?_map, List.length_map]
  rw [setFrom_get _ _ _ h]
  split <;> rfl

/-! ### what the table says of a type -/
def valIs : Value → Value → Bool
  | .bool a, .bool b => a == b
  | .int k m, .int k' n => decide (k = k') && decide (m = n)
  | .string a, .string b => a.size == 0 && b.size == 0
  | .pointer none, .pointer none => true
  | .slice none 0 0, .slice none 0 0 => true
  | .map none, .map none => true
  | .nilFunc, .nilFunc => true
  | .nilIface, .nilIface => true
  | _, _ => false

theorem valIs_eq {a b : Value} (h : valIs a b = true) : a = b := by
  unfold valIs at h
  split at h
  · simp only [beq_iff_eq] at h; rw [h]
  · simp only [Bool.and_eq_true, decide_eq_true_eq] at h; rw [h.1, h.2]
  · simp only [Bool.and_eq_true, beq_iff_eq] at h
    rename_i a b
    obtain ⟨⟨x⟩⟩ := a
    obtain ⟨⟨y⟩⟩ := b
    obtain ⟨h1, h2⟩ := h
    simp [ByteArray.size] at h1 h2
    subst h1; subst h2; rfl
  all_goals first | rfl | cases h

def valsAre : List Value → List Value → Bool
  | [], [] => true
  | a :: as, b :: bs => valIs a b && valsAre as bs
  | _, _ => false

theorem valsAre_eq : ∀ {as bs : List Value}, valsAre as bs = true → as = bs
  | [], [], _ => rfl
  | a :: as, b :: bs, h => by
    simp only [valsAre, Bool.and_eq_true] at h
    rw [valIs_eq h.1, valsAre_eq h.2]
  | [], _ :: _, h => by cases h
  | _ :: _, [], h => by cases h

def aggT (P : Program) (t : Nat) : Bool :=
  match P.underlying t with
  | some (.struct _) => true
  | some (.array _ _) => true
  | _ => false

def fieldsAre (P : Program) : List Field → List (Nat × Nat × Bool) → Bool
  | [], [] => true
  | f :: fs, (o, s, ag) :: xs => (f.offset == o) && (match P.info? f.type with | some i => i.size == s | none => false) && (aggT P f.type == ag) && (P.underlying f.type).isSome && fieldsAre P fs xs
  | _, _ => false

def kindIs (P : Program) (d : TypeDesc) (k : TK) : Bool :=
  match d, k with
  | .int a, .int b => decide (a = b)
  | .bool, .bool => true
  | .string, .str => true
  | .pointer _, .ptr => true
  | .slice e, .slc e' => e == e'
  | .array n e, .arr n' e' => n == n' && e == e'
  | .map k e, .map k' e' => k == k' && e == e'
  | .func _ _ _, .fn => true
  | .struct fs, .strct xs => fieldsAre P fs.toList xs
  | _, _ => false

def tyIs (P : Program) (t : Nat) (ti : TI) : Bool :=
  (match P.info? t with
    | some i => i.size == ti.sz && Nat.beq ti.z.length ti.sz && i.bytes == ti.by_ && (match i.zero with | some z => valsAre z.cells.toList ti.z && (match z with | .agg _ => ti.k.agg | .tuple _ => false | _ => !ti.k.agg) | none => false)
    | none => false) &&
  (match P.underlying t with
    | some d => kindIs P d ti.k
    | none => false)

def tabOk (P : Program) (T : Tab) : Bool := T.all fun (t, ti) => tyIs P t ti

structure TyOk (P : Program) (t : Nat) (ti : TI) : Prop where
  zlen : ti.z.length = ti.sz
  info : ∃ i z, P.info? t = some i ∧ i.size = ti.sz ∧ i.bytes = ti.by_ ∧ i.zero = some z ∧ z.cells.toList = ti.z ∧ (ti.k.agg = true → z = .agg ti.z.toArray) ∧ (ti.k.agg = false → z.cells = #[z])
  und : ∃ d, P.underlying t = some d ∧ kindIs P d ti.k = true

theorem tyOk_of {P : Program} {t : Nat} {ti : TI} (h : tyIs P t ti = true) : TyOk P t ti := by
  unfold tyIs at h
  simp only [Bool.and_eq_true] at h
  obtain ⟨h1, h2⟩ := h
  constructor
  · split at h1
    · rename_i i hi
      simp only [Bool.and_eq_true, beq_iff_eq] at h1
      exact Nat.eq_of_beq_eq_true h1.1.1.2
    · cases h1
  · split at h1
    · rename_i i hi
      simp only [Bool.and_eq_true, beq_iff_eq] at h1
      obtain ⟨⟨⟨h3, _⟩, h4⟩, h5⟩ := h1
      split at h5
      · rename_i z hz
        simp only [Bool.and_eq_true] at h5
        obtain ⟨h6, h7⟩ := h5
        have h8 := valsAre_eq h6
        refine ⟨i, z, hi, h3, h4, hz, h8, ?_, ?_⟩
        · intro ha
          cases z <;> simp [ha] at h7
          rename_i cs
          rw [← h8]; simp [Value.cells]
        · intro ha
          cases z <;> simp [ha] at h7 <;> rfl
      · cases h5
    · cases h1
  · split at h2
    · rename_i d hd; exact ⟨d, hd, h2⟩
    · cases h2

theorem tabOk_look {P : Program} : ∀ {T : Tab}, tabOk P T = true → ∀ {t ti}, lookT T t = some ti → TyOk P t ti
  | [], _, t, ti, h => by cases h
  | (k, s) :: T, hT, t, ti, h => by
    simp only [tabOk, List.all_cons, Bool.and_eq_true] at hT
    simp only [lookT] at h
    cases hb : Nat.beq k t with
    | true =>
      rw [hb] at h
      have := Nat.eq_of_beq_eq_true hb
      subst this
      simp at h; subst h
      exact tyOk_of hT.1
    | false => rw [hb] at h; exact tabOk_look (T := T) hT.2 h

section
variable {P : Program} {t : Nat} {ti : TI}
theorem TyOk.run_agg (h : TyOk P t ti) (w : World) : (isAgg t).run P w = .ok ti.k.agg w := by
  obtain ⟨d, hd, hk⟩ := h.und
  unfold isAgg
  rw [Sem.run_bind, run_underlying hd w]
  cases d <;> cases hti : ti.k <;> simp [hti, kindIs] at hk <;> simp [TK.agg]

theorem TyOk.run_size (h : TyOk P t ti) (w : World) : (sizeOf t).run P w = .ok ti.sz w := by
  obtain ⟨i, z, hi, hs, _⟩ := h.info
  simp [sizeOf, typeInfo, hi, hs]

theorem TyOk.run_zero (h : TyOk P t ti) (w : World) : ∃ z, (zeroValue t).run P w = .ok z w ∧ z.cells.toList = ti.z ∧ (ti.k.agg = true → z = .agg ti.z.toArray) ∧ (ti.k.agg = false → z.cells = #[z]) := by
  obtain ⟨i, z, hi, hs, hb, hz, hc, h1, h2⟩ := h.info
  exact ⟨z, by simp [zeroValue, typeInfo, hi, hz], hc, h1, h2⟩

theorem TyOk.run_info (h : TyOk P t ti) (w : World) : ∃ i, (typeInfo t).run P w = .ok i w ∧ i.size = ti.sz ∧ i.bytes = ti.by_ := by
  obtain ⟨i, z, hi, hs, hb, _⟩ := h.info
  exact ⟨i, by simp [typeInfo, hi], hs, hb⟩

theorem TyOk.int (h : TyOk P t ti) {k : IntKind} (hk : ti.k = .int k) : P.underlying t = some (.int k) := by
  obtain ⟨d, hd, h2⟩ := h.und
  cases d <;> simp [hk, kindIs] at h2
  rw [hd, h2]
theorem TyOk.bool (h : TyOk P t ti) (hk : ti.k = .bool) : P.underlying t = some .bool := by
  obtain ⟨d, hd, h2⟩ := h.und
  cases d <;> simp [hk, kindIs] at h2
  exact hd
theorem TyOk.str (h : TyOk P t ti) (hk : ti.k = .str) : P.underlying t = some .string := by
  obtain ⟨d, hd, h2⟩ := h.und
  cases d <;> simp [hk, kindIs] at h2
  exact hd
theorem TyOk.ptr (h : TyOk P t ti) (hk : ti.k = .ptr) : ∃ e, P.underlying t = some (.pointer e) := by
  obtain ⟨d, hd, h2⟩ := h.und
  cases d <;> simp [hk, kindIs] at h2
  exact ⟨_, hd⟩
theorem TyOk.slc (h : TyOk P t ti) {e : Nat} (hk : ti.k = .slc e) : P.underlying t = some (.slice e) := by
  obtain ⟨d, hd, h2⟩ := h.und
  cases d <;> simp [hk, kindIs] at h2
  rw [hd, h2]
theorem TyOk.arr (h : TyOk P t ti) {n e : Nat} (hk : ti.k = .arr n e) : P.underlying t = some (.array n e) := by
  obtain ⟨d, hd, h2⟩ := h.und
  cases d <;> simp [hk, kindIs] at h2
  rw [hd, h2.1, h2.2]
theorem TyOk.map (h : TyOk P t ti) {k e : Nat} (hk : ti.k = .map k e) : P.underlying t = some (.map k e) := by
  obtain ⟨d, hd, h2⟩ := h.und
  cases d <;> simp [hk, kindIs] at h2
  rw [hd, h2.1, h2.2]

theorem fieldsAre_get : ∀ {fs : List Field} {xs : List (Nat × Nat × Bool)}, fieldsAre P fs xs = true → ∀ i o s ag, nth xs i = some (o, s, ag) →
    ∃ f, fs[i]? = some f ∧ f.offset = o ∧ (∃ inf, P.info? f.type = some inf ∧ inf.size = s) ∧ aggT P f.type = ag ∧ (P.underlying f.type).isSome = true
  | [], [], _, i, o, s, ag, h => by cases h
  | f :: fs, (o', s', ag') :: xs, h, i, o, s, ag, hx => by
    simp only [fieldsAre, Bool.and_eq_true, beq_iff_eq] at h
    obtain ⟨⟨⟨⟨h1, h2⟩, h3⟩, h5⟩, h4⟩ := h
    cases i with
    | zero =>
      simp [nth] at hx
      obtain ⟨rfl, rfl, rfl⟩ := hx
      refine ⟨f, rfl, h1, ?_, h3, h5⟩
      split at h2
      · rename_i inf hi; exact ⟨inf, hi, by simpa using h2⟩
      · cases h2
    | succ i => exact fieldsAre_get h4 i o s ag hx
  | [], _ :: _, h, _, _, _, _, _ => by cases h
  | _ :: _, [], h, _, _, _, _, _ => by cases h

theorem TyOk.fields (h : TyOk P t ti) {xs : List (Nat × Nat × Bool)} (hk : ti.k = .strct xs) : ∃ fs : Array Field, P.underlying t = some (.struct fs) ∧ fieldsAre P fs.toList xs = true := by
  obtain ⟨d, hd, h2⟩ := h.und
  cases d <;> simp [hk, kindIs] at h2
  exact ⟨_, hd, h2⟩
end

/-! ### operands -/
section
variable {P : Program} {T : Tab} {n : Nat} {l : Env} {h : List LB} {a : Act}
theorem ev_sound (hf : Fr n l h a) {x : Operand} {s : SV} (he : ev l x = some s) : a.eval x = s.val ∧ okSV h s := by
  cases x with
  | tmp t => exact hf.kn t s he
  | const v => simp [ev] at he; subst he; exact ⟨rfl, trivial⟩
  | global g => simp [ev] at he; subst he; exact ⟨rfl, trivial⟩
  | func f => simp [ev] at he; subst he; exact ⟨rfl, trivial⟩

theorem evs_sound (hf : Fr n l h a) : ∀ {xs : List Operand} {ss : List SV}, evs l xs = some ss → xs.map a.eval = ss.map SV.val ∧ ∀ s ∈ ss, okSV h s
  | [], ss, he => by simp [evs] at he; subst he; simp
  | x :: xs, ss, he => by
    simp only [evs] at he
    cases h1 : ev l x with
    | none => rw [h1] at he; cases he
    | some s =>
      rw [h1] at he
      simp only at he
      cases h2 : evs l xs with
      | none => rw [h2] at he; cases he
      | some ss' =>
        rw [h2] at he
        simp at he; subst he
        obtain ⟨e1, o1⟩ := ev_sound hf h1
        obtain ⟨e2, o2⟩ := evs_sound hf h2
        refine ⟨by simp [e1, e2], ?_⟩
        intro s' hs'
        rcases List.mem_cons.1 hs' with rfl | hm
        · exact o1
        · exact o2 _ hm
end
end Go.Eng
