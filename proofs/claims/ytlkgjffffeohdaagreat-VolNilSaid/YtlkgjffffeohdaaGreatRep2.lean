/- Maps in memory; blocks that a structure owns. -/
import Derived.Test.YtlkgjffffeohdaaGreatRep
import Derived.Laws.Append
set_option linter.unusedVariables false
namespace Go.Eng
open Go

def upd {α β : Type} [DecidableEq α] (f : α → β) (k : α) (v : β) : α → β := fun i => if i = k then v else f i
theorem upd_self {α β : Type} [DecidableEq α] (f : α → β) (k : α) (v : β) : upd f k v k = v := if_pos rfl
theorem upd_ne {α β : Type} [DecidableEq α] (f : α → β) (k : α) (v : β) {i : α} (h : i ≠ k) : upd f k v i = f i := if_neg h

/-! ### maps of whole numbers -/
abbrev kV (k : Int) : Value := .int .i64 k

structure EsOk (es : List MapEntry) (c : Nat) (f : Int → Option Value) : Prop where
  find : ∀ k, mfind (kV k) es = f k
  keyed : ∀ e ∈ es, ∃ k, e.key = kV k
  kn : (es.map (·.key)).Nodup
  bn : (es.map (·.born)).Nodup
  lt : ∀ e ∈ es, e.born < c

def MO (H : HV) (m : Nat) (f : Int → Option Value) : Prop := ∃ es c, H m = some (.map es c) ∧ EsOk es.toList c f

theorem MO.mono {H H' : HV} {m : Nat} {f : Int → Option Value} (h : MO H m f) (hs : ∀ o, H m = some o → H' m = some o) : MO H' m f := by
  obtain ⟨es, c, h1, h2⟩ := h; exact ⟨es, c, hs _ h1, h2⟩

theorem sameKey_k (a b : Int) : sameKey (kV a) (kV b) = decide (a = b) := rfl

theorem EsOk.keyIs {es : List MapEntry} {c : Nat} {f : Int → Option Value} (h : EsOk es c f) : ∀ e ∈ es, keyIs (.int .i64) e.key := h.keyed

theorem mfind_mem {es : List MapEntry} {k : Int} {v : Value} (hk : ∀ e ∈ es, ∃ k, e.key = kV k) (h : mfind (kV k) es = some v) : ∃ e ∈ es, e.key = kV k ∧ e.val = v := by
  induction es with
  | nil => cases h
  | cons e es ih =>
    obtain ⟨j, hj⟩ := hk e (List.mem_cons_self ..)
    simp only [mfind, hj, sameKey_k, decide_eq_true_eq] at h
    split at h
    · rename_i e1
      subst e1
      exact ⟨e, List.mem_cons_self .., hj, by simpa using h⟩
    · obtain ⟨e', h1, h2⟩ := ih (fun e he => hk e (List.mem_cons_of_mem _ he)) h
      exact ⟨e', List.mem_cons_of_mem _ h1, h2⟩

theorem mfind_of_mem {es : List MapEntry} {e : MapEntry} {k : Int} (hk : ∀ e ∈ es, ∃ k, e.key = kV k) (hn : (es.map (·.key)).Nodup) (he : e ∈ es) (hek : e.key = kV k) : mfind (kV k) es = some e.val := by
  induction es with
  | nil => cases he
  | cons x es ih =>
    obtain ⟨j, hj⟩ := hk x (List.mem_cons_self ..)
    simp only [mfind, hj, sameKey_k, decide_eq_true_eq]
    rw [List.map_cons, List.nodup_cons] at hn
    rcases List.mem_cons.1 he with rfl | he
    · have : j = k := by rw [hj] at hek; simpa [kV] using hek
      rw [if_pos this.symm]
    · have : k ≠ j := by
        rintro rfl
        exact hn.1 (List.mem_map.2 ⟨e, he, by rw [hek, hj]⟩)
      rw [if_neg this]
      exact ih (fun e he => hk e (List.mem_cons_of_mem _ he)) hn.2 he

theorem mfind_append (es es' : List MapEntry) (k : Value) : mfind k (es ++ es') = (mfind k es).or (mfind k es') := by
  induction es with
  | nil => rfl
  | cons e es ih =>
    simp only [List.cons_append, mfind]
    split
    · rfl
    · exact ih

theorem mset_find (es : List MapEntry) (hk : ∀ e ∈ es, ∃ k, e.key = kV k) (k : Int) (v : Value) (j : Int) : mfind (kV j) (mset (kV k) v es) = if j = k ∧ (mfind (kV k) es).isSome then some v else mfind (kV j) es := by
  induction es with
  | nil => simp [mset, mfind]
  | cons e es ih =>
    obtain ⟨i, hi⟩ := hk e (List.mem_cons_self ..)
    have ih := ih (fun e he => hk e (List.mem_cons_of_mem _ he))
    simp only [mset, mfind, hi, sameKey_k, decide_eq_true_eq]
    by_cases hki : k = i
    · rw [if_pos hki, if_pos hki]
      simp only [mfind, sameKey_k, decide_eq_true_eq, Option.isSome_some, and_true]
      by_cases hjk : j = k
      · rw [if_pos hjk, if_pos hjk]
      · rw [if_neg hjk, if_neg hjk, if_neg (by rw [← hki]; exact hjk)]
    · rw [if_neg hki, if_neg hki]
      simp only [mfind, hi, sameKey_k, decide_eq_true_eq]
      by_cases hji : j = i
      · rw [if_pos hji, if_neg (by rintro ⟨h, _⟩; omega), if_pos hji]
      · rw [if_neg hji, if_neg hji, ih]

theorem mset_keys (es : List MapEntry) (hk : ∀ e ∈ es, ∃ k, e.key = kV k) (k : Int) (v : Value) : (mset (kV k) v es).map (·.key) = es.map (·.key) ∧ (mset (kV k) v es).map (·.born) = es.map (·.born) := by
  induction es with
  | nil => exact ⟨rfl, rfl⟩
  | cons e es ih =>
    obtain ⟨i, hi⟩ := hk e (List.mem_cons_self ..)
    have ih := ih (fun e he => hk e (List.mem_cons_of_mem _ he))
    simp only [mset, hi, sameKey_k, decide_eq_true_eq]
    split
    · rename_i e1
      simp [e1, hi]
    · simp [ih.1, ih.2]

theorem mem_of_map_eq {es es' : List MapEntry} {α : Type} (g : MapEntry → α) (h : es'.map g = es.map g) {e : MapEntry} (he : e ∈ es') : ∃ e2 ∈ es, g e2 = g e := by
  have : g e ∈ es.map g := by rw [← h]; exact List.mem_map_of_mem he
  obtain ⟨e2, h1, h2⟩ := List.mem_map.1 this
  exact ⟨e2, h1, h2⟩

theorem EsOk.put {es : List MapEntry} {c : Nat} {f : Int → Option Value} (h : EsOk es c f) (k : Int) (v : Value) : EsOk (mput (kV k) v es c).1 (mput (kV k) v es c).2 (upd f k (some v)) := by
  unfold mput
  by_cases hs : (mfind (kV k) es).isSome = true
  · rw [if_pos hs]
    have hk := mset_keys es h.keyed k v
    refine ⟨fun j => ?_, fun e he => ?_, by rw [hk.1]; exact h.kn, by rw [hk.2]; exact h.bn, fun e he => ?_⟩
    · show mfind (kV j) (mset (kV k) v es) = _
      rw [mset_find es h.keyed]
      unfold upd
      by_cases hj : j = k
      · rw [if_pos ⟨hj, hs⟩, if_pos hj]
      · rw [if_neg (fun h => hj h.1), if_neg hj, h.find]
    · obtain ⟨e2, h1, h2⟩ := mem_of_map_eq (·.key) hk.1 he
      rw [← h2]; exact h.keyed e2 h1
    · obtain ⟨e2, h1, h2⟩ := mem_of_map_eq (·.born) hk.2 he
      have := h.lt e2 h1
      show e.born < c
      omega
  · rw [if_neg hs]
    have hn : mfind (kV k) es = none := by simpa using hs
    refine ⟨fun j => ?_, fun e he => ?_, ?_, ?_, fun e he => ?_⟩
    · show mfind (kV j) (es ++ _) = _
      rw [mfind_append, h.find]
      simp only [mfind, sameKey_k, decide_eq_true_eq, upd]
      by_cases hj : j = k
      · subst hj; rw [if_pos rfl, if_pos rfl, ← h.find, hn]; rfl
      · rw [if_neg hj, if_neg hj]; simp
    · rcases List.mem_append.1 he with he | he
      · exact h.keyed e he
      · rw [List.mem_singleton.1 he]; exact ⟨k, rfl⟩
    · rw [List.map_append, List.nodup_append]
      refine ⟨h.kn, by simp, fun a ha b hb => ?_⟩
      simp only [List.map_cons, List.map_nil, List.mem_singleton] at hb
      subst hb
      rintro rfl
      obtain ⟨e, he, hek⟩ := List.mem_map.1 ha
      have := mfind_of_mem h.keyed h.kn he hek
      rw [hn] at this; cases this
    · rw [List.map_append, List.nodup_append]
      refine ⟨h.bn, by simp, fun a ha b hb => ?_⟩
      simp only [List.map_cons, List.map_nil, List.mem_singleton] at hb
      subst hb
      rintro rfl
      obtain ⟨e, he, hek⟩ := List.mem_map.1 ha
      have := h.lt e he
      omega
    · show e.born < c + 1
      rcases List.mem_append.1 he with he | he
      · have := h.lt e he; omega
      · rw [List.mem_singleton.1 he]; exact Nat.lt_succ_self c

theorem mdel_sub (k : Value) : ∀ es : List MapEntry, List.Sublist (mdel k es) es
  | [] => .slnil
  | e :: es => by
    simp only [mdel]
    split
    · exact List.sublist_cons_self ..
    · exact (mdel_sub k es).cons_cons e

theorem mdel_find (k : Int) : ∀ es : List MapEntry, (∀ e ∈ es, ∃ k, e.key = kV k) → (es.map (·.key)).Nodup → ∀ j, mfind (kV j) (mdel (kV k) es) = if j = k then none else mfind (kV j) es
  | [], _, _, j => by simp [mdel, mfind]
  | e :: es, hk, hn, j => by
    obtain ⟨i, hi⟩ := hk e (List.mem_cons_self ..)
    rw [List.map_cons, List.nodup_cons] at hn
    have hk' : ∀ e ∈ es, ∃ k, e.key = kV k := fun e he => hk e (List.mem_cons_of_mem _ he)
    simp only [mdel, mfind, hi, sameKey_k, decide_eq_true_eq]
    by_cases hki : k = i
    · rw [if_pos hki]
      by_cases hj : j = k
      · rw [if_pos hj]
        cases hf : mfind (kV j) es with
        | none => rfl
        | some v =>
          obtain ⟨e2, h1, h2, _⟩ := mfind_mem hk' hf
          exact (hn.1 (List.mem_map.2 ⟨e2, h1, by rw [h2, hi, hj, hki]⟩)).elim
      · rw [if_neg hj, if_neg (by rw [← hki]; exact hj)]
    · rw [if_neg hki]
      simp only [mfind, hi, sameKey_k, decide_eq_true_eq]
      rw [mdel_find k es hk' hn.2 j]
      by_cases hji : j = i
      · rw [if_pos hji, if_neg (by omega), if_pos hji]
      · rw [if_neg hji, if_neg hji]

theorem EsOk.del {es : List MapEntry} {c : Nat} {f : Int → Option Value} (h : EsOk es c f) (k : Int) : EsOk (mdel (kV k) es) c (upd f k none) := by
  have hsub := mdel_sub (kV k) es
  refine ⟨fun j => ?_, fun e he => h.keyed e (hsub.mem he), (hsub.map _).nodup h.kn, (hsub.map _).nodup h.bn, fun e he => h.lt e (hsub.mem he)⟩
  rw [mdel_find k es h.keyed h.kn j]
  unfold upd
  split
  · rfl
  · exact h.find j

theorem MO.look {H : HV} {m : Nat} {f : Int → Option Value} (h : MO H m f) (k : Int) {K1 : Value → Prop} {K2 : Prop} (h1 : ∀ v, f k = some v → K1 v) (h2 : f k = none → K2) :
    ∃ es c, H m = some (.map es c) ∧ keyIs (.int .i64) (.int .i64 k) ∧ (∀ e ∈ es.toList, keyIs (.int .i64) e.key) ∧ (∀ v, mfind (.int .i64 k) es.toList = some v → K1 v) ∧ (mfind (.int .i64 k) es.toList = none → K2) := by
  obtain ⟨es, c, hm, he⟩ := h
  exact ⟨es, c, hm, ⟨k, rfl⟩, he.keyIs, fun v hv => h1 v (by rw [← he.find]; exact hv), fun hn => h2 (by rw [← he.find]; exact hn)⟩

theorem MO.put {H : HV} {m : Nat} {f : Int → Option Value} {B : Nat} {M : Nat → Prop} (h : MO H m f) (k : Int) {v : Value} {K : HV → Prop} (hM : M m ∨ B ≤ m) (hK : ∀ H', (∀ i x, i ≠ m → H i = some x → H' i = some x) → MO H' m (upd f k (some v)) → K H') :
    ∃ es c, H m = some (.map es c) ∧ keyIs (.int .i64) (.int .i64 k) ∧ (∀ e ∈ es.toList, keyIs (.int .i64) e.key) ∧ (M m ∨ B ≤ m) ∧
      ∀ H', Upd H H' m (.map (mput (.int .i64 k) v es.toList c).1.toArray (mput (.int .i64 k) v es.toList c).2) → K H' := by
  obtain ⟨es, c, hm, he⟩ := h
  exact ⟨es, c, hm, ⟨k, rfl⟩, he.keyIs, hM, fun H' hu => hK H' hu.old ⟨_, _, hu.new, by simpa using he.put k v⟩⟩

theorem MO.del {H : HV} {m : Nat} {f : Int → Option Value} {B : Nat} {M : Nat → Prop} (h : MO H m f) (k : Int) {K : HV → Prop} (hM : M m ∨ B ≤ m) (hK : ∀ H', (∀ i x, i ≠ m → H i = some x → H' i = some x) → MO H' m (upd f k none) → K H') :
    ∃ es c, H m = some (.map es c) ∧ keyIs (.int .i64) (.int .i64 k) ∧ (∀ e ∈ es.toList, keyIs (.int .i64) e.key) ∧ (M m ∨ B ≤ m) ∧
      ∀ H', Upd H H' m (.map (mdel (.int .i64 k) es.toList).toArray c) → K H' := by
  obtain ⟨es, c, hm, he⟩ := h
  exact ⟨es, c, hm, ⟨k, rfl⟩, he.keyIs, hM, fun H' hu => hK H' hu.old ⟨_, _, hu.new, by simpa using he.del k⟩⟩

theorem MO.clear {H : HV} {m : Nat} {f : Int → Option Value} {B : Nat} {M : Nat → Prop} (h : MO H m f) {K : HV → Prop} (hM : M m ∨ B ≤ m) (hK : ∀ H', (∀ i x, i ≠ m → H i = some x → H' i = some x) → MO H' m (fun _ => none) → K H') :
    ∃ es c, H m = some (.map es c) ∧ (M m ∨ B ≤ m) ∧ ∀ H', Upd H H' m (.map #[] c) → K H' := by
  obtain ⟨es, c, hm, he⟩ := h
  exact ⟨es, c, hm, hM, fun H' hu => hK H' hu.old ⟨_, _, hu.new, ⟨fun _ => rfl, by simp, by simp, by simp, by simp⟩⟩⟩

theorem MO.new {H : HV} {m : Nat} {c : Nat} (h : H m = some (.map #[] c)) : MO H m (fun _ => none) := ⟨_, _, h, ⟨fun _ => rfl, by simp, by simp, by simp, by simp⟩⟩

theorem nodup_of_map {α β : Type} {g : α → β} : ∀ {l : List α}, (l.map g).Nodup → l.Nodup
  | [], _ => List.nodup_nil
  | x :: l, hn => by
    rw [List.map_cons, List.nodup_cons] at hn
    exact List.nodup_cons.2 ⟨fun h => hn.1 (List.mem_map_of_mem h), nodup_of_map hn.2⟩

/-- the keys of a map -/
theorem MO.keys {H : HV} {m : Nat} {f : Int → Option Value} (h : MO H m f) : ∃ ks : List Int, ks.Nodup ∧ (∀ k, k ∈ ks ↔ f k ≠ none) := by
  obtain ⟨es, c, hm, he⟩ := h
  have key : ∀ l : List MapEntry, (∀ e ∈ l, ∃ k, e.key = kV k) → ∃ ks : List Int, l.map (·.key) = ks.map kV := by
    intro l hl
    induction l with
    | nil => exact ⟨[], rfl⟩
    | cons e l ih =>
      obtain ⟨k, hk⟩ := hl e (List.mem_cons_self ..)
      obtain ⟨ks, hks⟩ := ih (fun e he => hl e (List.mem_cons_of_mem _ he))
      exact ⟨k :: ks, by simp [hk, hks]⟩
  obtain ⟨ks, hks⟩ := key es.toList he.keyed
  have hn := he.kn
  rw [hks] at hn
  refine ⟨ks, nodup_of_map hn, fun k => ?_⟩
  rw [← he.find]
  constructor
  · intro hk
    have : kV k ∈ es.toList.map (·.key) := by rw [hks]; exact List.mem_map_of_mem hk
    obtain ⟨e, h1, h2⟩ := List.mem_map.1 this
    rw [mfind_of_mem he.keyed he.kn h1 h2]
    simp
  · intro hk
    cases hf : mfind (kV k) es.toList with
    | none => exact (hk hf).elim
    | some v =>
      obtain ⟨e, h1, h2, _⟩ := mfind_mem he.keyed hf
      have : kV k ∈ ks.map kV := by rw [← hks]; exact List.mem_map.2 ⟨e, h1, h2⟩
      obtain ⟨j, hj, hjk⟩ := List.mem_map.1 this
      have : j = k := by simpa [kV] using hjk
      exact this ▸ hj

/-- an iteration over a map: the keys that are still to come -/
structure MI (H : HV) (r m : Nat) (f : Int → Option Value) (rest : List Int) : Prop where
  out : ∃ es c seen, H m = some (.map es c) ∧ EsOk es.toList c f ∧ H r = some (.mapIter (some m) c seen c) ∧ ∀ e ∈ es.toList, ∀ k, e.key = kV k → (e.born ∉ seen.toList ↔ k ∈ rest)
  nodup : rest.Nodup
  sub : ∀ k ∈ rest, f k ≠ none
  ne : r ≠ m

theorem MO.iter {H : HV} {m : Nat} {f : Int → Option Value} {B : Nat} (h : MO H m f) {K : Nat → HV → Prop} (hK : ∀ r H' rest, B ≤ r → H r = none → Sub H H' → (∀ k, k ∈ rest ↔ f k ≠ none) → MI H' r m f rest → K r H') :
    ∃ es c, H m = some (.map es c) ∧ newExt B (.mapIter (some m) c #[] c) H K := by
  obtain ⟨rest, hn, hr⟩ := h.keys
  obtain ⟨es, c, hm, he⟩ := h
  refine ⟨es, c, hm, fun r H' hB hN hE => hK r H' rest hB hN hE.old hr ⟨⟨es, c, #[], hE.old _ _ hm, he, hE.new, fun e hee k hk => ?_⟩, hn, fun k hk => (hr k).1 hk, ?_⟩⟩
  · rw [hr, ← he.find, mfind_of_mem he.keyed he.kn hee hk]
    simp
  · rintro rfl; rw [hm] at hN; cases hN

theorem MI.mono {H H' : HV} {r m : Nat} {f : Int → Option Value} {rest : List Int} (h : MI H r m f rest) (h1 : ∀ o, H r = some o → H' r = some o) (h2 : ∀ o, H m = some o → H' m = some o) : MI H' r m f rest := by
  obtain ⟨es, c, seen, a, b, c', d⟩ := h.out
  exact ⟨⟨es, c, seen, h2 _ a, b, h1 _ c', d⟩, h.nodup, h.sub, h.ne⟩

theorem MI.map {H : HV} {r m : Nat} {f : Int → Option Value} {rest : List Int} (h : MI H r m f rest) : MO H m f := by
  obtain ⟨es, c, seen, a, b, _⟩ := h.out
  exact ⟨es, c, a, b⟩

theorem nodup_map_inj {α β : Type} {g : α → β} : ∀ {l : List α}, (l.map g).Nodup → ∀ {a b : α}, a ∈ l → b ∈ l → g a = g b → a = b
  | [], _, a, b, ha, _, _ => by cases ha
  | x :: l, hn, a, b, ha, hb, e => by
    rw [List.map_cons, List.nodup_cons] at hn
    rw [List.mem_cons] at ha hb
    rcases ha with h1 | h1
    · rcases hb with h2 | h2
      · rw [h1, h2]
      · exact (hn.1 (List.mem_map.2 ⟨b, h2, by rw [← e, h1]⟩)).elim
    · rcases hb with h2 | h2
      · exact (hn.1 (List.mem_map.2 ⟨a, h1, by rw [e, h2]⟩)).elim
      · exact nodup_map_inj hn.2 h1 h2 e

theorem find_born {es : List MapEntry} (hn : (es.map (·.born)).Nodup) {e : MapEntry} (he : e ∈ es) : es.find? (·.born == e.born) = some e := by
  induction es with
  | nil => cases he
  | cons x es ih =>
    rw [List.map_cons, List.nodup_cons] at hn
    rw [List.find?_cons]
    rcases List.mem_cons.1 he with rfl | he
    · simp
    · have : (x.born == e.born) = false := by
        simp only [beq_eq_false_iff_ne, ne_eq]
        intro hb
        exact hn.1 (List.mem_map.2 ⟨e, he, hb.symm⟩)
      rw [this]
      exact ih hn.2 he

/-- the entry at which an iteration stands -/
def ME (H : HV) (r : Nat) (k : Int) (v : Value) : Prop := ∃ m since seen es c e, H r = some (.mapIter (some m) since seen c) ∧ H m = some (.map es c) ∧ seen.back? = some e.born ∧ es.find? (·.born == e.born) = some e ∧ e.key = .int .i64 k ∧ e.val = v

theorem ME.entry {H : HV} {r : Nat} {k : Int} {v : Value} (h : ME H r k v) {K : MapEntry → Prop} (hK : ∀ bn, K { key := .int .i64 k, val := v, born := bn }) :
    ∃ m since seen es c e, H r = some (.mapIter (some m) since seen c) ∧ H m = some (.map es c) ∧ seen.back? = some e.born ∧ es.find? (·.born == e.born) = some e ∧ K e := by
  obtain ⟨m, since, seen, es, c, e, h1, h2, h3, h4, h5, h6⟩ := h
  exact ⟨m, since, seen, es, c, e, h1, h2, h3, h4, by obtain ⟨a, b, c⟩ := e; subst h5; subst h6; exact hK _⟩

theorem MI.next {H : HV} {r m : Nat} {f : Int → Option Value} {rest : List Int} {B : Nat} {M : Nat → Prop} (h : MI H r m f rest) {K0 : Prop} {K1 : MapEntry → HV → Prop} (hM : M r ∨ B ≤ r)
    (h0 : rest = [] → K0) (h1 : ∀ k v bn, k ∈ rest → f k = some v → ∀ H', (∀ i x, i ≠ r → H i = some x → H' i = some x) → MI H' r m f (rest.erase k) → ME H' r k v → K1 { key := .int .i64 k, val := v, born := bn } H') :
    ∃ m since seen last es c, H r = some (.mapIter (some m) since seen last) ∧ H m = some (.map es c) ∧ (M r ∨ B ≤ r) ∧ c = last ∧ c = since ∧ (∀ e ∈ es.toList, e.born < c) ∧
      ((∀ e ∈ es.toList, e.born ∈ seen.toList) → K0) ∧
      (∀ e ∈ es.toList, e.born ∉ seen.toList → ∀ H', Upd H H' r (.mapIter (some m) since (seen.push e.born) c) → K1 e H') := by
  obtain ⟨es, c, seen, hm, he, hr, hs⟩ := h.out
  refine ⟨m, c, seen, c, es, c, hr, hm, hM, rfl, rfl, he.lt, fun hall => h0 ?_, fun e hee hns H' hu => ?_⟩
  · cases hrest : rest with
    | nil => rfl
    | cons k ks =>
      have hk : k ∈ rest := by rw [hrest]; exact List.mem_cons_self ..
      have hf := h.sub k hk
      cases hfk : f k with
      | none => exact (hf hfk).elim
      | some v =>
        rw [← he.find] at hfk
        obtain ⟨e, e1, e2, _⟩ := mfind_mem he.keyed hfk
        exact (((hs e e1 k e2).2 hk) (hall e e1)).elim
  · obtain ⟨k, hk⟩ := he.keyed e hee
    have hkr := (hs e hee k hk).1 hns
    have hfk : f k = some e.val := by rw [← he.find]; exact mfind_of_mem he.keyed he.kn hee hk
    have ee : e = { key := .int .i64 k, val := e.val, born := e.born } := by obtain ⟨a, b, c⟩ := e; simp only at hk; rw [hk]
    have h1 := h1 k e.val e.born hkr hfk H' hu.old
    rw [← ee] at h1
    refine h1 ⟨⟨es, c, seen.push e.born, hu.old _ _ (fun e => h.ne e.symm) hm, he, hu.new, fun e2 he2 k2 hk2 => ?_⟩, h.nodup.erase k, fun j hj => h.sub j (List.mem_of_mem_erase hj), h.ne⟩
      ⟨m, c, seen.push e.born, es, c, e, hu.new, hu.old _ _ (fun e => h.ne e.symm) hm, by simp, ?_, hk, rfl⟩
    rotate_left
    · have := find_born he.bn hee
      rw [← Array.find?_toList]; exact this
    rw [List.Nodup.mem_erase_iff h.nodup, ← hs e2 he2 k2 hk2]
    simp only [Array.toList_push, List.mem_append, List.mem_singleton]
    by_cases hek : e2 = e
    · subst hek
      have : k2 = k := by rw [hk] at hk2; simpa [kV] using hk2.symm
      simp [this]
    · have hb : e2.born ≠ e.born := fun hb => hek (nodup_map_inj he.bn he2 hee hb)
      have hkk : k2 ≠ k := fun hkk => hek (nodup_map_inj he.kn he2 hee (by rw [hk2, hk, hkk]))
      simp [hb, hkk]

/-- a key that has come goes out of the map -/
theorem MI.del {H : HV} {r m : Nat} {f : Int → Option Value} {rest : List Int} {B : Nat} {M : Nat → Prop} (h : MI H r m f rest) (k : Int) (hk : k ∉ rest) {K : HV → Prop} (hM : M m ∨ B ≤ m) (hK : ∀ H', (∀ i x, i ≠ m → H i = some x → H' i = some x) → MI H' r m (upd f k none) rest → K H') :
    ∃ es c, H m = some (.map es c) ∧ keyIs (.int .i64) (.int .i64 k) ∧ (∀ e ∈ es.toList, keyIs (.int .i64) e.key) ∧ (M m ∨ B ≤ m) ∧
      ∀ H', Upd H H' m (.map (mdel (.int .i64 k) es.toList).toArray c) → K H' := by
  obtain ⟨es, c, seen, hm, he, hr, hs⟩ := h.out
  refine ⟨es, c, hm, ⟨k, rfl⟩, he.keyIs, hM, fun H' hu => hK H' hu.old ⟨⟨_, c, seen, hu.new, by simpa using he.del k, hu.old _ _ h.ne hr, fun e hee k2 hk2 => ?_⟩, h.nodup, fun j hj => ?_, h.ne⟩⟩
  · exact hs e ((mdel_sub _ _).mem (by simpa [kV] using hee)) k2 hk2
  · rw [upd_ne _ _ _ (by rintro rfl; exact hk hj)]; exact h.sub j hj

theorem bytesV_len (bs : List UInt8) : (bytesV bs).length = bs.length := by simp [bytesV]
theorem bytesV_app (bs cs : List UInt8) : bytesV (bs ++ cs) = bytesV bs ++ bytesV cs := by simp [bytesV]

/-! ### slices of one's own -/
def adr (b : Option Nat) : Option Addr := match b with | some r => some ⟨r, 0, none⟩ | none => none
abbrev slV (b : Option Nat) (n c : Nat) : Value := .slice (adr b) n c

/-- a slice over an array of one's own, from its first cell on -/
structure OS (H : HV) (ty sz : Nat) (b : Option Nat) (n c : Nat) (vs : List Value) : Prop where
  len : vs.length = n * sz
  le : n ≤ c
  out : match b with
    | none => c = 0
    | some r => ∃ arr, H r = some (.cells arr ty (0, 0)) ∧ arr.size = c * sz ∧ vs = arr.toList.take (n * sz)

theorem OS.mono {H H' : HV} {ty sz : Nat} {b : Option Nat} {n c : Nat} {vs : List Value} (h : OS H ty sz b n c vs) (hs : ∀ r o, b = some r → H r = some o → H' r = some o) : OS H' ty sz b n c vs := by
  refine ⟨h.len, h.le, ?_⟩
  cases b with
  | none => exact h.out
  | some r =>
    obtain ⟨arr, h1, h2⟩ := h.out
    exact ⟨arr, hs r _ rfl h1, h2⟩

theorem OS.rd {H : HV} {ty sz : Nat} {b : Option Nat} {n c : Nat} {vs : List Value} (h : OS H ty sz b n c vs) : RdS H sz n (slV b n c) vs := by
  have hl := h.len
  have hle := h.le
  cases b with
  | none =>
    have hc : c = 0 := h.out
    have : n = 0 := by omega
    subst this
    show vs = []
    exact List.length_eq_zero_iff.1 (by simpa using hl)
  | some r =>
    obtain ⟨arr, h1, h2, h3⟩ := h.out
    refine ⟨arr, ty, (0, 0), h1, ?_, ?_⟩
    · rw [h2, Nat.zero_add]; exact Nat.mul_le_mul_right _ hle
    · rw [h3]
      simp [List.extract_eq_take_drop]

theorem OS.nil (H : HV) (ty sz : Nat) : OS H ty sz none 0 0 [] := ⟨by simp, Nat.le_refl _, rfl⟩

theorem OS.zero_le {H : HV} {ty sz : Nat} {b : Option Nat} {n c : Nat} {vs : List Value} (h : OS H ty sz b n c vs) (hn : 0 < n) : ∃ r, b = some r := by
  cases b with
  | none => have : c = 0 := h.out; have := h.le; omega
  | some r => exact ⟨r, rfl⟩

theorem setMany_toList : ∀ (xs : List Value) (arr : Array Value) (off : Nat), off + xs.length ≤ arr.size → (setMany arr off xs).toList = arr.toList.take off ++ xs ++ arr.toList.drop (off + xs.length) ∧ (setMany arr off xs).size = arr.size
  | [], arr, off, _ => by simp [setMany]
  | x :: xs, arr, off, h => by
    simp only [List.length_cons] at h
    have ih := setMany_toList xs (arr.setIfInBounds off x) (off + 1) (by simp; omega)
    simp only [setMany]
    refine ⟨?_, by rw [ih.2]; simp⟩
    rw [ih.1, Array.toList_setIfInBounds, List.take_set, List.drop_set, if_pos (by omega)]
    have hlt : off < arr.toList.length := by simp; omega
    have : (arr.toList.take (off + 1)).set off x = arr.toList.take off ++ [x] := by
      rw [List.take_succ_eq_append_getElem hlt, List.set_append_right _ _ (by rw [List.length_take]; exact Nat.min_le_left ..)]
      rw [List.length_take, Nat.min_eq_left (Nat.le_of_lt hlt), Nat.sub_self]
      rfl
    rw [this]
    simp [Nat.add_assoc, Nat.add_comm 1]

theorem OS.append {H : HV} {ty sz : Nat} {b : Option Nat} {n c : Nat} {vs : List Value} (ho : OS H ty sz b n c vs) {B : Nat} {M : Nat → Prop} {h : List LB} {by_ : Nat} {z : List Value} {x : Value} {m : Nat} {K : KS} (xs : List Value)
    (hx : RdS H sz m x xs) (hxl : xs.length = m * sz) (h1 : ∀ v ∈ xs, v.oneCell' = true) (hby : 1 ≤ by_) (hcap : (n + m) * by_ ≤ 140737488355328) (hz : z.length = sz) (hM : ∀ r, b = some r → M r ∨ B ≤ r)
    (hK : ∀ b' c' H', OS H' ty sz b' (n + m) c' (vs ++ xs) → (∀ i o, (b ≠ some i ∨ c < n + m) → H i = some o → H' i = some o) → (∀ r, b' = some r → (b = some r ∧ n + m ≤ c) ∨ (H r = none ∧ B ≤ r)) → (∀ i o, H i = some o → ∃ o', H' i = some o') → K (.v (slV b' (n + m) c')) h H') :
    appendStop B M h H ty sz by_ z (adr b) n c m x K := by
  have hl := ho.len
  have hle := ho.le
  refine ⟨vs, xs, ho.rd, hx, h1, hby, fun hlt => growslice_fits hlt hcap, fun hin => ?_, fun hout r cap H' hB hN hcap' hE => ?_⟩
  · cases b with
    | none =>
      have hc : c = 0 := ho.out
      have h0 : n = 0 ∧ m = 0 ∧ c = 0 := by omega
      obtain ⟨rfl, rfl, rfl⟩ := h0
      have hx0 : xs = [] := List.length_eq_zero_iff.1 (by simpa using hxl)
      subst hx0
      show K (.v (slV none (0 + 0) 0)) h H
      refine hK none 0 H ⟨by simp at hl ⊢; exact hl, Nat.le_refl _, rfl⟩ (fun i o _ hi => hi) (fun r hr => by cases hr) (fun i o hi => ⟨o, hi⟩)
    | some r =>
      obtain ⟨arr, g1, g2, g3⟩ := ho.out
      have hsz : n * sz + xs.length ≤ arr.size := by
        rw [hxl, g2, ← Nat.add_mul]; exact Nat.mul_le_mul_right _ hin
      refine ⟨arr, ty, (0, 0), g1, by rw [Nat.zero_add]; exact hsz, .inr (.inl (Nat.zero_le _)), hM r rfl, fun H' hU => ?_⟩
      rw [Nat.zero_add] at hU
      obtain ⟨s1, s2⟩ := setMany_toList xs arr (n * sz) hsz
      refine hK (some r) c H' ⟨by rw [List.length_append, hl, hxl, Nat.add_mul], hin, _, hU.new, by rw [s2]; exact g2, ?_⟩ (fun i o hi => hU.old i o (fun e => hi.elim (fun h => h (by rw [e])) (fun h => by omega))) (fun r' hr' => .inl ⟨hr', hin⟩)
        (fun i o hi => by
          by_cases e : i = r
          · subst e; exact ⟨_, hU.new⟩
          · exact ⟨o, hU.old i o e hi⟩)
      have el : (vs ++ xs).length = (n + m) * sz := by rw [List.length_append, hl, hxl, Nat.add_mul]
      rw [s1, ← g3, List.take_append_of_le_length (by rw [el]; exact Nat.le_refl _), List.take_of_length_le (by rw [el]; exact Nat.le_refl _)]
  · have e1 : (vs ++ xs).length = (n + m) * sz := by rw [List.length_append, hl, hxl, Nat.add_mul]
    have ez : (zeroL (cap - (n + m)) z).length = (cap - (n + m)) * sz := by
      unfold zeroL; simp [List.length_flatten, hz]
    refine hK (some r) cap H' ⟨e1, hcap', _, hE.new, ?_, ?_⟩ (fun i o _ hi => hE.old i o hi) (fun r' hr' => .inr (by cases hr'; exact ⟨hN, hB⟩)) (fun i o hi => ⟨o, hE.old i o hi⟩)
    · show (vs ++ xs ++ zeroL _ _).length = _
      rw [List.length_append, e1, ez, ← Nat.add_mul]
      congr 1
      omega
    · show vs ++ xs = (vs ++ xs ++ zeroL _ _).take _
      rw [List.take_append_of_le_length (by rw [e1]; exact Nat.le_refl _), List.take_of_length_le (by rw [e1]; exact Nat.le_refl _)]

/-- an append that makes a new array -/
theorem append_new {H : HV} {sz : Nat} {a : Option Addr} {n c : Nat} {vs : List Value} (hrd : RdS H sz n (.slice a n c) vs) (hl : vs.length = n * sz) {B : Nat} {M : Nat → Prop} {h : List LB} {e by_ : Nat} {z : List Value} {x : Value} {m : Nat} {K : KS} (hlt : c < n + m) (xs : List Value)
    (hx : RdS H sz m x xs) (hxl : xs.length = m * sz) (h1 : ∀ v ∈ xs, v.oneCell' = true) (hby : 1 ≤ by_) (hcap : (n + m) * by_ ≤ 140737488355328) (hz : z.length = sz)
    (hK : ∀ r c' H', B ≤ r → H r = none → Sub H H' → OS H' e sz (some r) (n + m) c' (vs ++ xs) → K (.v (.slice (some ⟨r, 0, none⟩) (n + m) c')) h H') :
    appendStop B M h H e sz by_ z a n c m x K := by
  refine ⟨vs, xs, hrd, hx, h1, hby, fun hlt => growslice_fits hlt hcap, fun hin => by omega, fun hout r cap H' hB hN hcap' hE => ?_⟩
  have e1 : (vs ++ xs).length = (n + m) * sz := by rw [List.length_append, hl, hxl, Nat.add_mul]
  have ez : (zeroL (cap - (n + m)) z).length = (cap - (n + m)) * sz := by
    unfold zeroL; simp [List.length_flatten, hz]
  refine hK r cap H' hB hN hE.old ⟨e1, hcap', _, hE.new, ?_, ?_⟩
  · show (vs ++ xs ++ zeroL _ _).length = _
    rw [List.length_append, e1, ez, ← Nat.add_mul]
    congr 1
    omega
  · show vs ++ xs = (vs ++ xs ++ zeroL _ _).take _
    rw [List.take_append_of_le_length (by rw [e1]; exact Nat.le_refl _), List.take_of_length_le (by rw [e1]; exact Nat.le_refl _)]

theorem RdS_one {H : HV} {r t c sz : Nat} {fr : Nat × Nat} {vs : List Value} (h : H r = some (.cells ⟨vs⟩ t fr)) (hl : vs.length = sz) : RdS H sz 1 (.slice (some ⟨r, 0, none⟩) 1 c) vs := by
  refine ⟨_, _, _, h, by show 0 + 1 * sz ≤ vs.length; omega, ?_⟩
  rw [Array.toList_extract, List.extract_eq_take_drop, List.drop_zero]
  show vs = vs.take _
  rw [List.take_of_length_le (by omega)]

theorem nodup_len_le {α : Type} [DecidableEq α] : ∀ {l r : List α}, l.Nodup → (∀ k ∈ l, k ∈ r) → l.length ≤ r.length
  | [], r, _, _ => Nat.zero_le _
  | x :: l, r, hn, hs => by
    rw [List.nodup_cons] at hn
    have hx := hs x (List.mem_cons_self ..)
    have := nodup_len_le (l := l) (r := r.erase x) hn.2 (fun k hk => (List.mem_erase_of_ne (fun e => hn.1 (by rw [← e]; exact hk))).2 (hs k (List.mem_cons_of_mem _ hk)))
    rw [List.length_erase_of_mem hx] at this
    have := List.length_pos_of_mem hx
    rw [List.length_cons]; omega

theorem BS.cell0 {H : HV} {r off n c : Nat} {bs : List UInt8} (h : BS H (some ⟨r, off, none⟩) n c bs) (hn : 0 < n) : ∃ arr ty fr k, H r = some (.cells arr ty fr) ∧ arr[off]? = some (.int .u8 k) := by
  obtain ⟨arr, ty, fr, h1, h2⟩ := h.get 0 hn
  exact ⟨arr, ty, fr, _, h1, by simpa using h2⟩

theorem OS.bs {H : HV} {ty r n c : Nat} {bs : List UInt8} (h : OS H ty 1 (some r) n c (bytesV bs)) : BS H (some ⟨r, 0, none⟩) n c bs := by
  have hl := h.len
  rw [bytesV_len] at hl
  exact ⟨by omega, h.le, h.rd⟩

/-! ### blocks that a structure owns -/
/-- what comes to it is new -/
structure Grow (H : HV) (F F' : Nat → Prop) : Prop where
  out : ∀ i, F' i → F i ∨ H i = none
  inn : ∀ i, F i → F' i

theorem Grow.refl {H : HV} {F : Nat → Prop} : Grow H F F := ⟨fun i h => .inl h, fun i h => h⟩
theorem Grow.trans {H H1 : HV} {F F1 F2 : Nat → Prop} (h : Grow H F F1) (h' : Grow H1 F1 F2) (hn : ∀ i, H1 i = none → ¬ F i → H i = none) (hd : ∀ i, F1 i → ∃ o, H1 i = some o) : Grow H F F2 := by
  refine ⟨fun i hi => ?_, fun i hi => h'.inn i (h.inn i hi)⟩
  rcases h'.out i hi with h2 | h2
  · exact h.out i h2
  · by_cases hf : F i
    · exact .inl hf
    · exact .inr (hn i h2 hf)

/-- what a call lets be is there still -/
theorem kept_none {H H1 : HV} {F : Nat → Prop} (hk : ∀ i o, H i = some o → ¬ F i → H1 i = some o) {i : Nat} (hn : H1 i = none) (hf : ¬ F i) : H i = none := by
  cases hh : H i with
  | none => rfl
  | some o => rw [hk _ _ hh hf] at hn; cases hn

theorem grow_new {H H' : HV} {F F' : Nat → Prop} {B : Nat} (hg : Grow H F F') (hdom : ∀ i, F' i → ∃ o, H' i = some o) (hd : ∀ i o, H' i = some o → (∃ o', H i = some o') ∨ B ≤ i) : ∀ i, F' i → F i ∨ B ≤ i := by
  intro i hi
  rcases hg.out i hi with h | h
  · exact .inl h
  · obtain ⟨o, ho⟩ := hdom i hi
    rcases hd i o ho with ⟨o', ho'⟩ | h'
    · rw [h] at ho'; cases ho'
    · exact .inr h'

/-- as far as F goes -/
def On (F : Nat → Prop) (H H' : HV) : Prop := ∀ i o, F i → H i = some o → H' i = some o

theorem Sub.on {H H' : HV} (h : Sub H H') (F : Nat → Prop) : On F H H' := fun i o _ => h i o
theorem On.sub {F F' : Nat → Prop} {H H' : HV} (h : On F H H') (hs : ∀ i, F' i → F i) : On F' H H' := fun i o hi => h i o (hs i hi)
theorem On.of_ne {F : Nat → Prop} {H H' : HV} {r : Nat} (h : ∀ i x, i ≠ r → H i = some x → H' i = some x) (hr : ¬ F r) : On F H H' := fun i o hi => h i o (fun e => hr (e ▸ hi))
theorem On.trans {F : Nat → Prop} {H H' H'' : HV} (h : On F H H') (h' : On F H' H'') : On F H H'' := fun i o hi ho => h' i o hi (h i o hi ho)

end Go.Eng
