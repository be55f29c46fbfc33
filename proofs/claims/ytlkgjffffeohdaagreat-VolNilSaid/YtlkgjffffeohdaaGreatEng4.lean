/- The engine is sound, part three: what a step does to the state. -/
import Derived.Test.YtlkgjffffeohdaaGreatEng3
set_option linter.unusedVariables false
set_option linter.unusedSimpArgs false
namespace Go.Eng
open Go

theorem Kp.refl (M : Nat → Prop) (w : World) : Kp M w w := ⟨rfl, rfl, rfl, Nat.le_refl _, fun _ _ _ => rfl⟩

section
variable {w0 : World} {H0 : HV} {M : Nat → Prop} {h h' : List LB} {H H' : HV} {w w' : World}

/-- what a change of the world must keep of the outside -/
structure Mv (w0 : World) (M : Nat → Prop) (X : Nat → Prop) (H H' : HV) (w w' : World) : Prop where
  os : w'.os = w.os
  tape : w'.tape = w.tape
  output : w'.output = w.output
  size : w.heap.size ≤ w'.heap.size
  may : ∀ i, X i → M i ∨ w0.heap.size ≤ i
  same : ∀ i, i < w.heap.size → ¬ X i → w'.heap[i]? = w.heap[i]?
  sub : ∀ i o, H' i = some o → (¬ X i ∧ H i = some o) ∨ w'.heap[i]? = some o
  dom : ∀ i o, H' i = some o → (∃ o', H i = some o') ∨ w0.heap.size ≤ i
  keep : ∀ i o, H i = some o → ¬ X i → H' i = some o

theorem lt_of_get {w : World} {i : Nat} {o : Obj} (h : w.heap[i]? = some o) : i < w.heap.size := (Array.getElem?_eq_some_iff.1 h).1

theorem Desc.move {X : Nat → Prop} (d : Desc w0 H0 M h H w) (m : Mv w0 M X H H' w w')
    (loc : ∀ k r ty cs, nth h' k = some (.mk r ty cs) → w'.heap[r]? = some (.cells (cs.map SV.val).toArray ty (0, 0)) ∧ w0.heap.size ≤ r ∧ H' r = none)
    (inj : ∀ k k' r ty cs ty' cs', nth h' k = some (.mk r ty cs) → nth h' k' = some (.mk r ty' cs') → k = k')
    (okc : ∀ k r ty cs, nth h' k = some (.mk r ty cs) → ∀ s ∈ cs, okSV h' s) : Desc w0 H0 M h' H' w' where
  kp := ⟨m.os.trans d.kp.os, m.tape.trans d.kp.tape, m.output.trans d.kp.output, Nat.le_trans d.kp.size m.size, fun i hi hM => by
    rw [m.same i (Nat.lt_of_lt_of_le hi d.kp.size) (fun hX => (m.may i hX).elim hM (fun h => by omega)), d.kp.old i hi hM]⟩
  sub0 := d.sub0
  sub := fun i o hi => (m.sub i o hi).elim (fun ⟨hX, hH⟩ => by have := d.sub i o hH; rw [m.same i (lt_of_get this) hX, this]) id
  dom := fun i o hi => (m.dom i o hi).elim (fun ⟨o', ho'⟩ => d.dom i o' ho') .inr
  keep := fun i o h0 hM => m.keep i o (d.keep i o h0 hM) (fun hX => (m.may i hX).elim hM (fun h => by have := d.sub0 i o h0; omega))
  loc := loc
  inj := inj
  okc := okc

def LBle (h h' : List LB) : Prop := ∀ s, okSV h s → okSV h' s

theorem LBle.refl (h : List LB) : LBle h h := fun _ h => h
theorem LBle.trans {h1 h2 h3 : List LB} (a : LBle h1 h2) (b : LBle h2 h3) : LBle h1 h3 := fun s h => b s (a s h)

theorem LBle_snoc (h : List LB) (b : LB) : LBle h (snoc b h) := by
  intro s hs
  cases s with
  | v x => trivial
  | p k r o =>
    have key : ∀ x, nth h k = some x → nth (snoc b h) k = some x := fun x hx => by
      rw [nth_snoc, if_neg (by have := nth_lt hx; omega)]; exact hx
    rcases hs with hs | ⟨ty, cs, hs⟩
    · exact .inl (key _ hs)
    · exact .inr ⟨ty, cs, key _ hs⟩

theorem LBle_kill {h : List LB} (k : Nat) : LBle h (setNth .dead h k) := by
  intro s hs
  cases s with
  | v x => trivial
  | p k' r o =>
    rcases hs with hs | ⟨ty, cs, hs⟩
    · left; rw [nth_setNth]; split
      · rfl
      · exact hs
    · by_cases hk : k = k'
      · left; rw [nth_setNth, if_pos ⟨hk, by have := nth_lt hs; omega⟩]
      · right; exact ⟨ty, cs, by rw [nth_setNth, if_neg (fun h => hk h.1)]; exact hs⟩

theorem LBle_set {h : List LB} {k r ty : Nat} {cs cs' : List SV} (hk : nth h k = some (.mk r ty cs)) : LBle h (setNth (.mk r ty cs') h k) := by
  intro s hs
  cases s with
  | v x => trivial
  | p k' r' o =>
    by_cases e : k = k'
    · subst e
      rcases hs with hs | ⟨ty', cs'', hs⟩
      · rw [hk] at hs; cases hs
      · rw [hk] at hs; cases hs
        exact .inr ⟨ty, cs', by rw [nth_setNth, if_pos ⟨rfl, nth_lt hk⟩]⟩
    · rcases hs with hs | ⟨ty', cs'', hs⟩
      · exact .inl (by rw [nth_setNth, if_neg (fun h => e h.1)]; exact hs)
      · exact .inr ⟨ty', cs'', by rw [nth_setNth, if_neg (fun h => e h.1)]; exact hs⟩

/-- a block more of the outside -/
theorem Desc.alloc_ext (d : Desc w0 H0 M h H w) (o : Obj) :
    w0.heap.size ≤ w.heap.size ∧ H w.heap.size = none ∧ ∃ H', Ext H H' w.heap.size o ∧ Desc w0 H0 M h H' (w.alloc o) := by
  have hn : H w.heap.size = none := by
    cases hh : H w.heap.size with
    | none => rfl
    | some x => have := lt_of_get (d.sub _ _ hh); omega
  have old : ∀ i, i < w.heap.size → (w.alloc o).heap[i]? = w.heap[i]? := fun i hi => RowKit.Below.heap_alloc w o i hi
  refine ⟨d.kp.size, hn, fun i => if i = w.heap.size then some o else H i, ⟨by simp, fun i x hi => ?_⟩, ?_⟩
  · have : i ≠ w.heap.size := fun e => by rw [e, hn] at hi; cases hi
    simp [this, hi]
  · refine d.move (X := fun _ => False) ⟨rfl, rfl, rfl, by simp, fun _ h => h.elim, fun i hi _ => old i hi, ?_, ?_, ?_⟩ ?_ d.inj d.okc
    · intro i x hi
      by_cases e : i = w.heap.size
      · right; rw [if_pos e] at hi; rw [e]; rw [heap_alloc_new]; exact hi
      · left; rw [if_neg e] at hi; exact ⟨fun h => h, hi⟩
    · intro i x hi
      by_cases e : i = w.heap.size
      · right; rw [e]; exact d.kp.size
      · left; rw [if_neg e] at hi; exact ⟨x, hi⟩
    · intro i x hi _
      have : i ≠ w.heap.size := fun e => by rw [e, hn] at hi; cases hi
      simp [this, hi]
    · intro k r ty cs hk
      obtain ⟨h1, h2, h3⟩ := d.loc k r ty cs hk
      have hlt := lt_of_get h1
      exact ⟨by rw [old r hlt]; exact h1, h2, by rw [if_neg (by omega)]; exact h3⟩

theorem Desc.alloc_own (d : Desc w0 H0 M h H w) (t : Nat) (cs : List SV) (hcs : ∀ s ∈ cs, okSV h s) :
    w0.heap.size ≤ w.heap.size ∧ H w.heap.size = none ∧ Desc w0 H0 M (snoc (.mk w.heap.size t cs) h) H (w.alloc (.cells (cs.map SV.val).toArray t (0, 0))) := by
  have hn : H w.heap.size = none := by
    cases hh : H w.heap.size with
    | none => rfl
    | some x => have := lt_of_get (d.sub _ _ hh); omega
  have old : ∀ o i, i < w.heap.size → (w.alloc o).heap[i]? = w.heap[i]? := fun o i hi => RowKit.Below.heap_alloc w o i hi
  refine ⟨d.kp.size, hn, ?_⟩
  refine d.move (X := fun _ => False) ⟨rfl, rfl, rfl, by simp, fun _ h => h.elim, fun i hi _ => old _ i hi, fun i x hi => .inl ⟨fun h => h, hi⟩, fun i x hi => .inl ⟨x, hi⟩, fun i x hi _ => hi⟩ ?_ ?_ ?_
  · intro k r ty cs' hk
    rw [nth_snoc] at hk
    split at hk
    · cases hk
      exact ⟨heap_alloc_new _ _, d.kp.size, hn⟩
    · obtain ⟨h1, h2, h3⟩ := d.loc k r ty cs' hk
      exact ⟨by rw [old _ r (lt_of_get h1)]; exact h1, h2, h3⟩
  · intro k k' r ty c1 ty' c2 hk hk'
    rw [nth_snoc] at hk hk'
    split at hk <;> split at hk'
    · omega
    · cases hk
      have := lt_of_get (d.loc _ _ _ _ hk').1
      omega
    · cases hk'
      have := lt_of_get (d.loc _ _ _ _ hk).1
      omega
    · exact d.inj _ _ _ _ _ _ _ hk hk'
  · intro k r ty c1 hk s hs
    rw [nth_snoc] at hk
    split at hk
    · cases hk; exact LBle_snoc h _ s (hcs s hs)
    · exact LBle_snoc h _ s (d.okc _ _ _ _ hk s hs)

/-- an own block goes out -/
theorem Desc.expo (d : Desc w0 H0 M h H w) {k r ty : Nat} {cs : List SV} (hk : nth h k = some (.mk r ty cs)) :
    ∃ H', Ext H H' r (.cells (cs.map SV.val).toArray ty (0, 0)) ∧ Desc w0 H0 M (setNth .dead h k) H' w := by
  obtain ⟨g1, g2, g3⟩ := d.loc k r ty cs hk
  refine ⟨fun i => if i = r then some (.cells (cs.map SV.val).toArray ty (0, 0)) else H i, ⟨by simp, fun i x hi => ?_⟩, ?_⟩
  · have : i ≠ r := fun e => by rw [e, g3] at hi; cases hi
    simp [this, hi]
  · refine d.move (X := fun _ => False) ⟨rfl, rfl, rfl, Nat.le_refl _, fun _ h => h.elim, fun i hi _ => rfl, ?_, ?_, ?_⟩ ?_ ?_ ?_
    · intro i x hi
      by_cases e : i = r
      · right; rw [if_pos e] at hi; rw [e, g1]; exact hi
      · left; rw [if_neg e] at hi; exact ⟨fun h => h, hi⟩
    · intro i x hi
      by_cases e : i = r
      · right; omega
      · left; rw [if_neg e] at hi; exact ⟨x, hi⟩
    · intro i x hi _
      have : i ≠ r := fun e => by rw [e, g3] at hi; cases hi
      simp [this, hi]
    · intro k' r' ty' cs' hk'
      rw [nth_setNth] at hk'
      split at hk'
      · cases hk'
      · rename_i hne
        obtain ⟨h1, h2, h3⟩ := d.loc k' r' ty' cs' hk'
        refine ⟨h1, h2, ?_⟩
        have : r' ≠ r := fun e => by
          subst e
          exact hne ⟨d.inj _ _ _ _ _ _ _ hk hk', nth_lt hk⟩
        rw [if_neg this]; exact h3
    · intro k1 k2 r' ty1 c1 ty2 c2 h1 h2
      rw [nth_setNth] at h1 h2
      split at h1 <;> first | (cases h1; done) | skip
      split at h2 <;> first | (cases h2; done) | skip
      exact d.inj _ _ _ _ _ _ _ h1 h2
    · intro k' r' ty' cs' hk' s hs
      rw [nth_setNth] at hk'
      split at hk'
      · cases hk'
      · exact LBle_kill k s (d.okc _ _ _ _ hk' s hs)

theorem forceL_eq {α : Type} : ∀ (l : List α) {K : List α → Prop}, forceL l K → K l
  | [], K, h => h
  | x :: xs, K, h => forceL_eq xs (K := fun l => K (x :: l)) h

theorem forceN_eq : ∀ (n : Nat) {K : Nat → Prop}, forceN n K → K n
  | 0, K, h => h
  | n + 1, K, h => forceN_eq n (K := fun m => K (m + 1)) h

theorem expo_sound (d : Desc w0 H0 M h H w) {s : SV} (hs : okSV h s) {K : Value → List LB → HV → Prop} (hK : expo s h H K) :
    ∃ h' H', LBle h h' ∧ Desc w0 H0 M h' H' w ∧ K s.val h' H' := by
  cases s with
  | v x => exact ⟨h, H, LBle.refl h, d, hK⟩
  | p k r off =>
    unfold Go.Eng.expo at hK
    simp only at hK
    split at hK
    · rename_i r' ty cs hk
      rcases hs with hs | ⟨ty', cs', hs⟩
      · rw [hk] at hs; cases hs
      · rw [hk] at hs; cases hs
        obtain ⟨H', hE, d'⟩ := d.expo hk
        exact ⟨_, H', LBle_kill k, d', forceL_eq _ (forceL_eq _ hK H' hE)⟩
    · exact ⟨h, H, LBle.refl h, d, hK⟩

theorem expos_sound : ∀ (ss : List SV) {h : List LB} {H : HV} {K : List Value → List LB → HV → Prop}, Desc w0 H0 M h H w → (∀ s ∈ ss, okSV h s) → expos ss h H K →
    ∃ h' H', LBle h h' ∧ Desc w0 H0 M h' H' w ∧ K (ss.map SV.val) h' H'
  | [], h, H, K, d, _, hK => ⟨h, H, LBle.refl h, d, hK⟩
  | s :: ss, h, H, K, d, hok, hK => by
    obtain ⟨h1, H1, l1, d1, k1⟩ := expo_sound d (hok s (List.mem_cons_self ..)) hK
    obtain ⟨h2, H2, l2, d2, k2⟩ := expos_sound ss d1 (fun s' hs' => l1 s' (hok s' (List.mem_cons_of_mem _ hs'))) k1
    exact ⟨h2, H2, l1.trans l2, d2, k2⟩

theorem svs_sound : ∀ {vs : List Value} {K : List SV → Prop}, svs vs K → K (vs.map SV.v)
  | [], K, h => h
  | v :: vs, K, h => svs_sound (vs := vs) (K := fun ss => K (.v v :: ss)) h

theorem map_val_v (vs : List Value) : (vs.map SV.v).map SV.val = vs := by
  rw [List.map_map]
  exact (List.map_congr_left (fun x _ => rfl)).trans (List.map_id vs)

def World.putB (w : World) (b : Nat) (o : Obj) : World := { w with heap := w.heap.setIfInBounds b o }

theorem putB_get (w : World) (b : Nat) (o : Obj) (i : Nat) : (World.putB w b o).heap[i]? = if i = b ∧ b < w.heap.size then some o else w.heap[i]? := by
  unfold World.putB
  simp only [Array.getElem?_setIfInBounds]
  by_cases hi : b = i
  · subst hi
    by_cases hlt : b < w.heap.size
    · simp [hlt]
    · simp [hlt]
  · rw [if_neg hi, if_neg (fun h => hi h.1.symm)]

/-- one block of the outside is another one -/
theorem Desc.upd (d : Desc w0 H0 M h H w) {b : Nat} {o : Obj} (o' : Obj) (hb : H b = some o) (hM : M b ∨ w0.heap.size ≤ b) :
    ∃ H', Upd H H' b o' ∧ Desc w0 H0 M h H' (World.putB w b o') := by
  have hlt := lt_of_get (d.sub b o hb)
  refine ⟨fun i => if i = b then some o' else H i, ⟨by simp, fun i x hi hH => by simp [hi, hH]⟩, ?_⟩
  refine d.move (X := fun i => i = b) ⟨rfl, rfl, rfl, by simp [World.putB], fun i h => by subst h; exact hM, ?_, ?_, ?_, ?_⟩ ?_ d.inj d.okc
  · intro i hi hne
    rw [putB_get, if_neg (fun h => hne h.1)]
  · intro i x hi
    by_cases e : i = b
    · right; rw [if_pos e] at hi; rw [putB_get, if_pos ⟨e, hlt⟩]; exact hi
    · left; rw [if_neg e] at hi; exact ⟨e, hi⟩
  · intro i x hi
    by_cases e : i = b
    · left; exact ⟨o, by rw [e]; exact hb⟩
    · left; rw [if_neg e] at hi; exact ⟨x, hi⟩
  · intro i x hi hne
    rw [if_neg hne]; exact hi
  · intro k r ty cs hk
    obtain ⟨h1, h2, h3⟩ := d.loc k r ty cs hk
    have hne : r ≠ b := fun e => by rw [e, hb] at h3; cases h3
    exact ⟨by rw [putB_get, if_neg (fun h => hne h.1)]; exact h1, h2, by rw [if_neg hne]; exact h3⟩

/-- an own block has other cells -/
theorem Desc.own (d : Desc w0 H0 M h H w) {k r ty : Nat} {cs : List SV} (hk : nth h k = some (.mk r ty cs)) (cs' : List SV) (hok : ∀ s ∈ cs', okSV h s) :
    Desc w0 H0 M (setNth (.mk r ty cs') h k) H (World.putB w r (.cells (cs'.map SV.val).toArray ty (0, 0))) := by
  obtain ⟨g1, g2, g3⟩ := d.loc k r ty cs hk
  have hlt := lt_of_get g1
  refine d.move (X := fun i => i = r) ⟨rfl, rfl, rfl, by simp [World.putB], fun i h => by subst h; exact .inr g2, ?_, ?_, fun i x hi => .inl ⟨x, hi⟩, fun i x hi _ => hi⟩ ?_ ?_ ?_
  · intro i hi hne
    rw [putB_get, if_neg (fun h => hne h.1)]
  · intro i x hi
    left
    exact ⟨fun e => (by rw [e, g3] at hi; cases hi), hi⟩
  · intro k' r' ty' c' hk'
    rw [nth_setNth] at hk'
    split at hk'
    · cases hk'
      exact ⟨by rw [putB_get, if_pos ⟨rfl, hlt⟩], g2, g3⟩
    · rename_i hne
      obtain ⟨h1, h2, h3⟩ := d.loc k' r' ty' c' hk'
      have : r' ≠ r := fun e => by
        subst e
        exact hne ⟨d.inj _ _ _ _ _ _ _ hk hk', nth_lt hk⟩
      exact ⟨by rw [putB_get, if_neg (fun h => this h.1)]; exact h1, h2, h3⟩
  · intro k1 k2 r' ty1 c1 ty2 c2 h1 h2
    rw [nth_setNth] at h1 h2
    split at h1 <;> split at h2
    · omega
    · rename_i e1 e2
      cases h1
      rw [← e1.1]
      exact d.inj _ _ _ _ _ _ _ hk h2
    · rename_i e1 e2
      cases h2
      rw [← e2.1]
      exact (d.inj _ _ _ _ _ _ _ hk h1).symm
    · exact d.inj _ _ _ _ _ _ _ h1 h2
  · intro k' r' ty' c' hk' s hs
    rw [nth_setNth] at hk'
    split at hk'
    · cases hk'; exact LBle_set hk s (hok s hs)
    · exact LBle_set hk s (d.okc _ _ _ _ hk' s hs)

/-- a draw -/
theorem Desc.drew (d : Desc w0 H0 M h H w) : Desc w0 H0 M h H w.drew := by
  refine d.move (X := fun _ => False) ⟨rfl, rfl, rfl, Nat.le_refl _, fun _ h => h.elim, fun i hi _ => rfl, fun i x hi => .inl ⟨fun h => h, hi⟩, fun i x hi => .inl ⟨x, hi⟩, fun i x hi _ => hi⟩ d.loc d.inj d.okc

end

/-! ### cells in the world -/
section
variable {P : Program} {w : World}

theorem cell_of {b off ty : Nat} {arr : Array Value} {fr : Nat × Nat} (hb : w.heap[b]? = some (.cells arr ty fr)) : w.cell? ⟨b, off, none⟩ = arr[off]? := cell_of_row w b off arr ty fr hb

theorem setCell_putB {b off ty : Nat} {arr : Array Value} {fr : Nat × Nat} (hb : w.heap[b]? = some (.cells arr ty fr)) (v : Value) :
    w.setCell ⟨b, off, none⟩ v = World.putB w b (.cells (arr.setIfInBounds off v) ty fr) := by
  unfold World.setCell World.putB
  congr 1
  apply Array.ext_getElem?
  intro i
  rw [Array.getElem?_modify, Array.getElem?_setIfInBounds]
  by_cases hi : b = i
  · subst hi
    have hlt := lt_of_get hb
    rw [hb]
    simp [hlt]
  · rw [if_neg hi, if_neg hi]

theorem putB_putB (b : Nat) (o o' : Obj) : World.putB (World.putB w b o) b o' = World.putB w b o' := by
  unfold World.putB
  simp

theorem putB_self {b : Nat} {o : Obj} (hb : w.heap[b]? = some o) : World.putB w b o = w := by
  have : w.heap.setIfInBounds b o = w.heap := by
    apply Array.ext_getElem?
    intro i
    rw [Array.getElem?_setIfInBounds]
    by_cases hi : b = i
    · subst hi; rw [if_pos rfl, if_pos (lt_of_get hb), hb]
    · rw [if_neg hi]
  show ({ w with heap := w.heap.setIfInBounds b o } : World) = w
  rw [this]

theorem notFr_not {fr : Nat × Nat} {off n i : Nat} (h : notFr fr off n) (hi : i < n) : (decide (fr.1 ≤ off + i) && decide (off + i < fr.2)) = false := by
  rcases h with h | h | h
  · simp; omega
  · simp; omega
  · omega

theorem run_storeCells {b ty : Nat} {fr : Nat × Nat} (off : Nat) : ∀ (vs : List Value) (i : Nat) (w : World) (arr : Array Value), w.heap[b]? = some (.cells arr ty fr) → off + i + vs.length ≤ arr.size →
    notFr fr (off + i) vs.length → (∀ v ∈ vs, v.oneCell' = true) → (storeCells ⟨b, off, none⟩ vs i).run P w = .ok () (World.putB w b (.cells (setMany arr (off + i) vs) ty fr))
  | [], i, w, arr, hb, _, _, _ => by
    simp only [storeCells, setMany, putB_self hb]; rfl
  | v :: vs, i, w, arr, hb, hl, hf, h1 => by
    simp only [List.length_cons] at hl hf
    have hone := h1 v (List.mem_cons_self ..)
    have hc : w.cell? ⟨b, off + i, none⟩ = some (arr[off + i]'(by omega)) := by rw [cell_of hb]; simp [show off + i < arr.size by omega]
    have hfr : w.frozen? ⟨b, off + i, none⟩ = false := by
      simp only [World.frozen?, hb]
      have := notFr_not hf (Nat.succ_pos vs.length)
      simpa using this
    simp only [storeCells, add_addr, Sem.run_bind, run_store P w _ v _ hone, hc, hfr, Bool.false_eq_true, if_false, Result.andThen_ok]
    rw [setCell_putB hb]
    have hb' : (World.putB w b (.cells (arr.setIfInBounds (off + i) v) ty fr)).heap[b]? = some (.cells (arr.setIfInBounds (off + i) v) ty fr) := by
      rw [putB_get, if_pos ⟨rfl, lt_of_get hb⟩]
    rw [run_storeCells off vs (i + 1) _ _ hb' (by simp; omega) (by
      rcases hf with h | h | h
      · left; omega
      · right; left; omega
      · right; right; omega) (fun x hx => h1 x (List.mem_cons_of_mem _ hx)), putB_putB]
    rfl

theorem run_loadCells_block {b ty off n : Nat} {arr : Array Value} {fr : Nat × Nat} (hb : w.heap[b]? = some (.cells arr ty fr)) (hl : off + n ≤ arr.size) :
    (loadCells ⟨b, off, none⟩ n).run P w = .ok (arr.extract off (off + n)) w := by
  have hlen : (arr.extract off (off + n)).toList.length = n := by simp; omega
  have := run_loadCells_list (P := P) w ⟨b, off, none⟩ (arr.extract off (off + n)).toList (fun j v hv => by
    rw [add_addr, cell_of hb]
    have hj : j < n := by
      have := (List.getElem?_eq_some_iff.1 hv).1
      omega
    have hv' : (arr.extract off (off + n))[j]? = some v := by rw [← Array.getElem?_toList]; exact hv
    rw [Array.getElem?_extract] at hv'
    rw [if_pos (by omega)] at hv'
    exact hv')
  rw [hlen] at this
  rw [this]

theorem run_loadVar {t : Nat} {ti : TI} (hT : TyOk P t ti) {b off ty : Nat} {arr : Array Value} {fr : Nat × Nat} (hb : w.heap[b]? = some (.cells arr ty fr)) :
    (ti.k.agg = false → ∀ v, arr[off]? = some v → (loadVar t ⟨b, off, none⟩).run P w = .ok v w) ∧
    (ti.k.agg = true → off + ti.sz ≤ arr.size → (loadVar t ⟨b, off, none⟩).run P w = .ok (.agg (arr.extract off (off + ti.sz))) w) := by
  constructor
  · intro ha v hv
    unfold loadVar
    simp only [Sem.run_bind, hT.run_agg w, Result.andThen_ok, ha, Bool.false_eq_true, if_false, run_load, cell_of hb, hv]
  · intro ha hl
    unfold loadVar
    simp only [Sem.run_bind, hT.run_agg w, Result.andThen_ok, ha, if_true, hT.run_size w, run_loadCells_block hb hl, Sem.run_pure]

theorem run_storeVar {t : Nat} {ti : TI} (hT : TyOk P t ti) {b off ty : Nat} {arr : Array Value} {fr : Nat × Nat} (hb : w.heap[b]? = some (.cells arr ty fr)) (v : Value)
    (hs : (cellsOf v).length = ti.sz) (hl : off + (cellsOf v).length ≤ arr.size) (hf : notFr fr off (cellsOf v).length) (h1 : ∀ x ∈ cellsOf v, x.oneCell' = true) :
    (storeVar t ⟨b, off, none⟩ v).run P w = .ok () (World.putB w b (.cells (setMany arr off (cellsOf v)) ty fr)) := by
  unfold storeVar
  have hs' : v.cells.size = ti.sz := by rw [← hs]; simp [cellsOf]
  simp only [Sem.run_bind, hT.run_size w, Result.andThen_ok, hs', ne_eq, not_true_eq_false, if_false]
  have := run_storeCells (P := P) off (cellsOf v) 0 w arr hb (by simpa using hl) (by simpa using hf) h1
  simpa [cellsOf] using this
end
end Go.Eng
