/- Volumes: a new one. -/
import Derived.Test.YtlkgjffffeohdaaGreatLawGroup
set_option linter.unusedVariables false
set_option linter.unusedSimpArgs false
namespace Go.Proofs.YtlkgjffffeohdaaGreat
open Go Go.Eng Go.Proofs

def rootN : Nd := ⟨2, 1, 0, 1, 0, 0, 0, 0, 0, 0, 0, 0⟩
def zeroB : List UInt8 := List.replicate 256 0
def rootB : List UInt8 := splice zeroB 64 (nodeB rootN 8)

/-- the i-th block of a new group's header and table -/
def grpB (g : G) (k i : Nat) : List UInt8 := if i = 0 then hdB g ⟨k, freshM g k⟩ else if k = 0 ∧ i = 1 then rootB else zeroB

theorem grpB_len (g : G) (k i : Nat) : (grpB g k i).length = 256 := by
  unfold grpB
  split
  · exact hdB_len _ _ (freshM_len _ _)
  · split
    · unfold rootB; rw [splice_length (by rw [nodeB_len _ 8 (Nat.le_refl _)]; unfold zeroB; rw [List.length_replicate]; decide)]; exact List.length_replicate ..
    · exact List.length_replicate ..

/-- what a block of a shape's headers and tables is, when new -/
def metaB (g : G) (b : Nat) : Option (List UInt8) :=
  if 2 ≤ b ∧ (b - 2) / g.gr.toNat < g.gs.toNat ∧ (b - 2) % g.gr.toNat ≤ (g.inn / 4).toNat then some (grpB g ((b - 2) / g.gr.toNat) ((b - 2) % g.gr.toNat)) else none

theorem metaB_at {g : G} (hg : g.ok) {k i : Nat} (hk : (k : Int) < g.gs) (hi : (i : Int) ≤ g.inn / 4) : metaB g (2 + k * g.gr.toNat + i) = some (grpB g k i) := by
  have hq := (gok_iff g).1 hg
  have hlt : i < g.gr.toNat := by omega
  have e1 : (2 + k * g.gr.toNat + i - 2) / g.gr.toNat = k := by
    rw [show 2 + k * g.gr.toNat + i - 2 = i + g.gr.toNat * k from by rw [Nat.mul_comm]; omega, Nat.add_mul_div_left _ _ (by omega), Nat.div_eq_of_lt hlt, Nat.zero_add]
  have e2 : (2 + k * g.gr.toNat + i - 2) % g.gr.toNat = i := by
    rw [show 2 + k * g.gr.toNat + i - 2 = i + g.gr.toNat * k from by rw [Nat.mul_comm]; omega, Nat.add_mul_mod_self_left, Nat.mod_eq_of_lt hlt]
  unfold metaB
  rw [e1, e2, if_pos (by omega)]

theorem metaB_gap {g : G} (hg : g.ok) {k i : Nat} (hi : g.inn / 4 < (i : Int)) (hi2 : (i : Int) < g.gr) : metaB g (2 + k * g.gr.toNat + i) = none := by
  have hq := (gok_iff g).1 hg
  have hlt : i < g.gr.toNat := by omega
  have e2 : (2 + k * g.gr.toNat + i - 2) % g.gr.toNat = i := by
    rw [show 2 + k * g.gr.toNat + i - 2 = i + g.gr.toNat * k from by rw [Nat.mul_comm]; omega, Nat.add_mul_mod_self_left, Nat.mod_eq_of_lt hlt]
  unfold metaB
  rw [e2, if_neg (by omega)]

/-- a disk of which the headers and tables below a block were written -/
def eachD (d : Dk) (g : G) (t : Nat) : Dk := ⟨d.n, d.S, fun b => if b < t then (match metaB g b with | some x => [x] | none => []) else []⟩

theorem eachD_write (d : Dk) (g : G) (t : Nat) {x : List UInt8} (h : metaB g t = some x) : (eachD d g t).write t x = eachD d g (t + 1) := by
  unfold Dk.write eachD
  simp only [Dk.mk.injEq, true_and]
  funext b
  by_cases e : b = t
  · subst e
    rw [upd_self, if_neg (Nat.lt_irrefl _), if_pos (Nat.lt_succ_self _), h]; rfl
  · rw [upd_ne _ _ _ e]
    by_cases h1 : b < t
    · rw [if_pos h1, if_pos (by omega)]
    · rw [if_neg h1, if_neg (by omega)]

theorem eachD_skip (d : Dk) (g : G) {s t : Nat} (hst : s ≤ t) (h : ∀ b, s ≤ b → b < t → metaB g b = none) : eachD d g s = eachD d g t := by
  unfold eachD
  simp only [Dk.mk.injEq, true_and]
  funext b
  by_cases h1 : b < s
  · rw [if_pos h1, if_pos (by omega)]
  · rw [if_neg h1]
    by_cases h2 : b < t
    · rw [if_pos h2, h b (by omega) h2]
    · rw [if_neg h2]

theorem fresh_in {g : G} (hg : g.ok) {no : Int} (h0 : 0 ≤ no) (h1 : no < g.gs) (w : World) : Calls Tryz.prog 173 #[gV g, iV no] w (RetP (hVE ⟨no, freshM g no⟩ 0) w) := by
  have := fresh_ok g no w
  rw [if_pos ⟨hg, h0, h1⟩] at this; exact this

theorem gput_in {H : HV} {g : G} {h : Hd} (hm : h.m.length = 24) (hr : rightB g h = true) (w : World) (hs : ∀ i o, H i = some o → w.heap[i]? = some o) : Calls Tryz.prog 134 #[gV g, hV h] w (Ret H (fun _ => False) (fun v H1 => Is (
    ∃ r, v = .tuple #[fresh r 256, iV 0] ∧ H r = none ∧ BO H1 r (hdB g h))) w) := by
  have := gput_ok g h hm w hs
  simp only [hr, if_true] at this; exact this

theorem veach_ok {H : HV} {F : Nat → Prop} {p : Nat} {d : Dk} {g : G} (w : World) (hs : ∀ i o, H i = some o → w.heap[i]? = some o) (hg : g.ok) (hd : DiskAt H F p d) (hn : g.size ≤ d.n) (hV : ∀ b, d.V b = []) :
    Calls Tryz.prog 88 #[gV g, iV 0, .func (.func 20) #[pV p] #[]] w (Ret H F (fun v H1 => Is (v = iV 0 ∧ ∃ F', DiskAt H1 F' p (eachD d g (2 + g.gs.toNat * g.gr.toNat)) ∧ Grow H F F')) w) := by
  have hk := (gok_iff g).1 hg
  have hsz : g.size = 2 + g.gs * g.gr := by unfold G.size; rw [if_pos hg]
  have ht : g.tables = g.inn / 4 := by unfold G.tables; rw [if_pos hg]
  have hnn : 2 + g.gs.toNat * g.gr.toNat ≤ d.n := by
    have e : ((g.gs.toNat * g.gr.toNat : Nat) : Int) = g.gs * g.gr := by
      rw [Int.natCast_mul, Int.toNat_of_nonneg (by omega), Int.toNat_of_nonneg (by omega)]
    omega
  have hd0 : eachD d g 2 = d := by
    unfold eachD
    obtain ⟨n, S, V⟩ := d
    simp only [Dk.mk.injEq, true_and]
    funext b
    have hV : ∀ b, V b = [] := hV
    rw [hV b]
    split
    · unfold metaB; rw [if_neg (by omega)]
    · rfl
  refine fn_ret (args := [gV g, iV 0, .func (.func 20) #[pV p] #[]]) tabH Tryz.func88 rfl (by kernel_rfl)  hs ?_
  conv => whnf
  intro rb hBb hNb
  (conv => whnf); repeat first | (refine drw (by decide +kernel) ?_; conv => whnf) | (refine fun (_ : Nat) (_ : _ ≤ _) (_ : _ = none) => ?_; conv => whnf)
  refine VLoop.ok (X := HV × (Nat → Prop) × Nat) (fun x => [(7, .v (iV x.2.2)), (3, .p 0 rb 0), (2, .v (.func (.func 20) #[pV p] #[])), (6, .v (iV 0))]) (fun x => x.1)
    (fun x => x.2.2 ≤ g.gs.toNat ∧ DiskAt x.1 x.2.1 p (eachD d g (2 + x.2.2 * g.gr.toNat)) ∧ Grow H F x.2.1 ∧ (∀ i o, H i = some o → ¬ F i → x.1 i = some o) ∧ ∀ i, x.2.1 i → F i ∨ w.heap.size ≤ i) (fun x => g.gs.toNat - x.2.2) tabH (by kernel_rfl) rfl (fun _ => rfl)
    (H, F, 0) ⟨Nat.zero_le _, by rw [Nat.zero_mul]; show DiskAt H F p (eachD d g 2); rw [hd0]; exact hd, Grow.refl, fun i o h _ => h, fun i h => .inl h⟩ ⟨rfl, rfl, rfl, rfl, trivial⟩ rfl ?_
  rintro ⟨Hx, Fx, k⟩ ⟨i1, i2, i3, i4, i5⟩
  dsimp only at i1 i2 i3 i4 i5
  (conv => whnf); repeat first | (refine drw (by decide +kernel) ?_; conv => whnf) | (refine fun (_ : Nat) (_ : _ ≤ _) (_ : _ = none) => ?_; conv => whnf)
  refine vif_dec (fun h1 => ?_) (fun h1 => ?_)
  · have h1 : (k : Int) < g.gs := h1
    have hkr : k * g.gr.toNat ≤ 2048 := Nat.le_trans (Nat.mul_le_mul (by omega : k ≤ 16) (by omega : g.gr.toNat ≤ 128)) (by decide)
    have hkr2 : (k : Int) * g.gr = ((k * g.gr.toNat : Nat) : Int) := by rw [Int.natCast_mul, Int.toNat_of_nonneg (by omega)]
    have hkg : k * g.gr.toNat + g.gr.toNat ≤ g.gs.toNat * g.gr.toNat := by
      have := Nat.mul_le_mul_right g.gr.toNat (by omega : k + 1 ≤ g.gs.toNat)
      rw [Nat.add_mul, Nat.one_mul] at this; exact this
    (conv => whnf); repeat first | (refine drw (by decide +kernel) ?_; conv => whnf) | (refine fun (_ : Nat) (_ : _ ≤ _) (_ : _ = none) => ?_; conv => whnf)
    (refine VCall.pure_ (by kernel_rfl) (fun w hs => fresh_in hg (Int.natCast_nonneg k) h1 w) ?_); (conv => whnf); repeat first | (refine drw (by decide +kernel) ?_; conv => whnf) | (refine fun (_ : Nat) (_ : _ ≤ _) (_ : _ = none) => ?_; conv => whnf)
    intro rh H1 hB1 hN1 hE1
    have hN1 : Hx rh = none := hN1
    have hm24 := freshM_len g k
    have hho : HO H1 rh hZ := ⟨_, hE1.new⟩
    (conv => whnf); repeat first | (refine drw (by decide +kernel) ?_; conv => whnf) | (refine fun (_ : Nat) (_ : _ ≤ _) (_ : _ = none) => ?_; conv => whnf)
    refine ⟨?_, HO.put hho (h2 := ⟨k, freshM g k⟩) (by rw [hm24]; rfl) (.inr hB1) ?_⟩
    · show (hL ⟨k, freshM g k⟩).length = 25
      simp [hL, bytesV, hm24]
    intro H2 hk2 ho2
    (conv => whnf); repeat first | (refine drw (by decide +kernel) ?_; conv => whnf) | (refine fun (_ : Nat) (_ : _ ≤ _) (_ : _ = none) => ?_; conv => whnf)
    refine ⟨_, ho2.agg hm24, ?_⟩
    (conv => whnf); repeat first | (refine drw (by decide +kernel) ?_; conv => whnf) | (refine fun (_ : Nat) (_ : _ ≤ _) (_ : _ = none) => ?_; conv => whnf)
    (refine VCall.ret (by kernel_rfl) (fun w hs => gput_in hm24 (fresh_right hg (Int.natCast_nonneg k) h1) w hs) ?_ ?_)
    · rintro i ⟨⟩
    rintro v H3 hk3 hd3 ⟨r3, rfl, hN3, hb3⟩
    have hH3 : ∀ i o, Hx i = some o → H3 i = some o := fun i o ho => hk3 i o (hk2 i o (fun e => by rw [e, hN1] at ho; cases ho) (hE1.old _ _ ho)) (fun h => h)
    (conv => whnf); repeat first | (refine drw (by decide +kernel) ?_; conv => whnf) | (refine fun (_ : Nat) (_ : _ ≤ _) (_ : _ = none) => ?_; conv => whnf)
    have hhd : g.head k = (2 + k * g.gr, 0) := by unfold G.head; rw [if_pos hg, if_pos ⟨Int.natCast_nonneg k, h1⟩]
    have hghead := fun w => ghead_ok g k w
    rw [hhd] at hghead
    (refine VCall.pure_ (by kernel_rfl) (fun w hs => hghead w) ?_); (conv => whnf); repeat first | (refine drw (by decide +kernel) ?_; conv => whnf) | (refine fun (_ : Nat) (_ : _ ≤ _) (_ : _ = none) => ?_; conv => whnf)
    (refine VCall.pure_ (by kernel_rfl) (fun w hs => gtables_ok g w) ?_); (conv => whnf); repeat first | (refine drw (by decide +kernel) ?_; conv => whnf) | (refine fun (_ : Nat) (_ : _ ≤ _) (_ : _ = none) => ?_; conv => whnf)
    rw [ht, wrap64 (by omega)]
    have hdk3 := i2.mono (H' := H3) (fun i o _ ho => hH3 i o ho)
    refine VLoop.ok (X := HV × (Nat → Prop) × Value × Nat) (fun x => [(44, .v (iV x.2.2.2)), (43, .v (iV (1 + g.inn / 4))), (12, .v (iV (2 + k * g.gr))), (10, .v x.2.2.1), (7, .v (iV k)), (3, .p 0 rb 0), (2, .v (.func (.func 20) #[pV p] #[])), (6, .v (iV 0))]) (fun x => x.1)
      (fun x => (x.2.2.2 : Int) ≤ 1 + g.inn / 4 ∧ DiskAt x.1 x.2.1 p (eachD d g (2 + k * g.gr.toNat + x.2.2.2)) ∧ Grow H F x.2.1 ∧ (∀ i o, H i = some o → ¬ F i → x.1 i = some o) ∧ (x.2.2.2 = 0 → ∃ r, x.2.2.1 = fresh r 256 ∧ BO x.1 r (grpB g k 0)) ∧ ∀ i, x.2.1 i → F i ∨ w.heap.size ≤ i) (fun x => (1 + g.inn / 4).toNat - x.2.2.2) tabH (by kernel_rfl) rfl (fun _ => rfl)
      (H3, Fx, fresh r3 256, 0) ⟨by show (0 : Int) ≤ _; omega, hdk3, i3, fun i o h hf => hH3 _ _ (i4 i o h hf), fun _ => ⟨r3, rfl, hb3⟩, i5⟩ ⟨rfl, rfl, rfl, rfl, rfl, rfl, rfl, rfl, trivial⟩ rfl ?_
    rintro ⟨Hy, Fy, dv, i⟩ ⟨j1, j2, j3, j4, j5, j6⟩
    dsimp only at j1 j2 j3 j4 j5 j6
    have ei : IntKind.i64.wrap ((i : Int) + 1) = ((i + 1 : Nat) : Int) := by rw [wrap64 (by omega)]; rfl
    have eadd : IntKind.i64.wrap (2 + (k : Int) * g.gr + (i : Int)) = ((2 + k * g.gr.toNat + i : Nat) : Int) := by rw [wrap64 (by omega)]; omega
    have hVi : (eachD d g (2 + k * g.gr.toNat + i)).V (2 + k * g.gr.toNat + i) = [] := by unfold eachD; dsimp only; rw [if_neg (Nat.lt_irrefl _)]
    (conv => whnf); repeat first | (refine drw (by decide +kernel) ?_; conv => whnf) | (refine fun (_ : Nat) (_ : _ ≤ _) (_ : _ = none) => ?_; conv => whnf)
    refine vif_dec (fun h2 => ?_) (fun h2 => ?_)
    · have h2 : (i : Int) < 1 + g.inn / 4 := h2
      (conv => whnf); repeat first | (refine drw (by decide +kernel) ?_; conv => whnf) | (refine fun (_ : Nat) (_ : _ ≤ _) (_ : _ = none) => ?_; conv => whnf)
      refine vif_dec (fun h3 => ?_) (fun h3 => ?_)
      · have h3 : (i : Int) > 0 := h3
        (conv => whnf); repeat first | (refine drw (by decide +kernel) ?_; conv => whnf) | (refine fun (_ : Nat) (_ : _ ≤ _) (_ : _ = none) => ?_; conv => whnf)
        refine ⟨by decide, ?_⟩
        intro r4 H4 hB4 hN4 hE4
        have hb4 : BO H4 r4 zeroB := bo_made (n := 256) hE4.new
        (conv => whnf); repeat first | (refine drw (by decide +kernel) ?_; conv => whnf) | (refine fun (_ : Nat) (_ : _ ≤ _) (_ : _ = none) => ?_; conv => whnf)
        refine vif_dec (fun h5 => ?_) (fun h5 => ?_)
        · have h5 : (k : Int) = 0 := h5
          (conv => whnf); repeat first | (refine drw (by decide +kernel) ?_; conv => whnf) | (refine fun (_ : Nat) (_ : _ ≤ _) (_ : _ = none) => ?_; conv => whnf)
          refine vif_dec (fun h6 => ?_) (fun h6 => ?_)
          · have h6 : (i : Int) = 1 := h6
            (conv => whnf); repeat first | (refine drw (by decide +kernel) ?_; conv => whnf) | (refine fun (_ : Nat) (_ : _ ≤ _) (_ : _ = none) => ?_; conv => whnf)
            (refine VCall.ret (by kernel_rfl) (fun w hs => ilay_ok 1 rootN w hs (hb4.all' (n := 256) (List.length_replicate ..) 256 (Nat.le_refl _)) (by decide)) ?_ ?_)
            · rintro i ⟨⟩
            rintro v H5 hk5 hd5 ⟨hp5⟩
            rw [if_pos ⟨rfl, by decide, by decide, by decide⟩] at hp5
            obtain ⟨r5, rfl, hN5, hb5⟩ := hp5
            have hgr : grpB g k i = rootB := by unfold grpB; rw [if_neg (by omega), if_pos (by omega)]
            have hb5 : BO H5 r5 rootB := hb5
            have UPP : ∀ j o, Hy j = some o → H5 j = some o := fun j o ho => hk5 j o (hE4.old _ _ ho) (fun h => h)
            (conv => whnf); repeat first | (refine drw (by decide +kernel) ?_; conv => whnf) | (refine fun (_ : Nat) (_ : _ ≤ _) (_ : _ = none) => ?_; conv => whnf)
            have j2' := j2.mono (H' := H5) (fun j o _ ho => UPP j o ho)
            have hDW := fun w hs => dwrite_ok (H := H5) (a := some ⟨r5, 0, none⟩) (n := 256) (c := 256) (xs := grpB g k i) (IntKind.i64.wrap (2 + (k : Int) * g.gr + (i : Int))) w hs j2' (by rw [hgr]; exact hb5.all' (by rw [← hgr]; exact grpB_len g k i) 256 (Nat.le_refl _)) (by decide) (fun _ => by rw [eadd]; show ((eachD d g (2 + k * g.gr.toNat + i)).V (2 + k * g.gr.toNat + i)).length < _; rw [hVi]; decide)
            conv => whnf
            refine VCall.ret (by kernel_rfl) (fun w hs => hDW w hs) ?_ ?_
            · rintro j hj; exact ⟨j2'.dom j hj, j6 j hj⟩
            rintro v H6 hk6 hd6 ⟨hp6⟩
            have hbn : 0 ≤ IntKind.i64.wrap (2 + (k : Int) * g.gr + (i : Int)) ∧ IntKind.i64.wrap (2 + (k : Int) * g.gr + (i : Int)) < (eachD d g (2 + k * g.gr.toNat + i)).n := by rw [eadd]; show 0 ≤ _ ∧ _ < (d.n : Int); omega
            rw [if_pos hbn, if_pos rfl, eadd] at hp6
            obtain ⟨rfl, F6, hdk6, hg6⟩ := hp6
            have e6 : ((2 + k * g.gr.toNat + i : Nat) : Int).toNat = 2 + k * g.gr.toNat + i := rfl
            rw [e6, eachD_write d g _ (metaB_at hg h1 (by omega))] at hdk6
            have h66 := grow_new hg6 hdk6.dom hd6
            (conv => whnf); repeat first | (refine drw (by decide +kernel) ?_; conv => whnf) | (refine fun (_ : Nat) (_ : _ ≤ _) (_ : _ = none) => ?_; conv => whnf)
            rw [ei]
            refine ⟨(H6, F6, fresh r5 256, i + 1), ⟨by dsimp only; omega, hdk6, ?_, ?_, fun h => (by cases h), ?_⟩, by dsimp only; omega, ⟨rfl, rfl, rfl, rfl, rfl, rfl, rfl, rfl, trivial⟩, ⟨[], rfl⟩, rfl⟩
            · refine ⟨fun j hj => ?_, fun j hj => hg6.inn j (j3.inn j hj)⟩
              rcases hg6.out j hj with h | h
              · exact j3.out j h
              · by_cases hf : F j
                · exact .inl hf
                · right
                  cases hh : H j with
                  | none => rfl
                  | some o => rw [UPP _ _ (j4 j o hh hf)] at h; cases h
            · intro j o h hf
              refine hk6 j o (UPP _ _ (j4 j o h hf)) (fun hfy => ?_)
              rcases j3.out j hfy with h' | h'
              · exact hf h'
              · rw [h] at h'; cases h'
            · intro j hj
              rcases h66 j hj with h | h
              · exact j6 j h
              · exact .inr h
          · have h6 : ¬ (i : Int) = 1 := h6
            (conv => whnf); repeat first | (refine drw (by decide +kernel) ?_; conv => whnf) | (refine fun (_ : Nat) (_ : _ ≤ _) (_ : _ = none) => ?_; conv => whnf)
            have hgr : grpB g k i = zeroB := by unfold grpB; rw [if_neg (by omega), if_neg (by omega)]
            have UPP : ∀ j o, Hy j = some o → H4 j = some o := fun j o ho => hE4.old _ _ ho
            have j2' := j2.mono (H' := H4) (fun j o _ ho => UPP j o ho)
            have hDW := fun w hs => dwrite_ok (H := H4) (a := some ⟨r4, 0, none⟩) (n := 256) (c := 256) (xs := grpB g k i) (IntKind.i64.wrap (2 + (k : Int) * g.gr + (i : Int))) w hs j2' (by rw [hgr]; exact hb4.all' (List.length_replicate ..) 256 (Nat.le_refl _)) (by decide) (fun _ => by rw [eadd]; show ((eachD d g (2 + k * g.gr.toNat + i)).V (2 + k * g.gr.toNat + i)).length < _; rw [hVi]; decide)
            conv => whnf
            refine VCall.ret (by kernel_rfl) (fun w hs => hDW w hs) ?_ ?_
            · rintro j hj; exact ⟨j2'.dom j hj, j6 j hj⟩
            rintro v H6 hk6 hd6 ⟨hp6⟩
            have hbn : 0 ≤ IntKind.i64.wrap (2 + (k : Int) * g.gr + (i : Int)) ∧ IntKind.i64.wrap (2 + (k : Int) * g.gr + (i : Int)) < (eachD d g (2 + k * g.gr.toNat + i)).n := by rw [eadd]; show 0 ≤ _ ∧ _ < (d.n : Int); omega
            rw [if_pos hbn, if_pos rfl, eadd] at hp6
            obtain ⟨rfl, F6, hdk6, hg6⟩ := hp6
            have e6 : ((2 + k * g.gr.toNat + i : Nat) : Int).toNat = 2 + k * g.gr.toNat + i := rfl
            rw [e6, eachD_write d g _ (metaB_at hg h1 (by omega))] at hdk6
            have h66 := grow_new hg6 hdk6.dom hd6
            (conv => whnf); repeat first | (refine drw (by decide +kernel) ?_; conv => whnf) | (refine fun (_ : Nat) (_ : _ ≤ _) (_ : _ = none) => ?_; conv => whnf)
            rw [ei]
            refine ⟨(H6, F6, fresh r4 256, i + 1), ⟨by dsimp only; omega, hdk6, ?_, ?_, fun h => (by cases h), ?_⟩, by dsimp only; omega, ⟨rfl, rfl, rfl, rfl, rfl, rfl, rfl, rfl, trivial⟩, ⟨[], rfl⟩, rfl⟩
            · refine ⟨fun j hj => ?_, fun j hj => hg6.inn j (j3.inn j hj)⟩
              rcases hg6.out j hj with h | h
              · exact j3.out j h
              · by_cases hf : F j
                · exact .inl hf
                · right
                  cases hh : H j with
                  | none => rfl
                  | some o => rw [UPP _ _ (j4 j o hh hf)] at h; cases h
            · intro j o h hf
              refine hk6 j o (UPP _ _ (j4 j o h hf)) (fun hfy => ?_)
              rcases j3.out j hfy with h' | h'
              · exact hf h'
              · rw [h] at h'; cases h'
            · intro j hj
              rcases h66 j hj with h | h
              · exact j6 j h
              · exact .inr h
        · have h5 : ¬ (k : Int) = 0 := h5
          (conv => whnf); repeat first | (refine drw (by decide +kernel) ?_; conv => whnf) | (refine fun (_ : Nat) (_ : _ ≤ _) (_ : _ = none) => ?_; conv => whnf)
          have hgr : grpB g k i = zeroB := by unfold grpB; rw [if_neg (by omega), if_neg (by omega)]
          have UPP : ∀ j o, Hy j = some o → H4 j = some o := fun j o ho => hE4.old _ _ ho
          have j2' := j2.mono (H' := H4) (fun j o _ ho => UPP j o ho)
          have hDW := fun w hs => dwrite_ok (H := H4) (a := some ⟨r4, 0, none⟩) (n := 256) (c := 256) (xs := grpB g k i) (IntKind.i64.wrap (2 + (k : Int) * g.gr + (i : Int))) w hs j2' (by rw [hgr]; exact hb4.all' (List.length_replicate ..) 256 (Nat.le_refl _)) (by decide) (fun _ => by rw [eadd]; show ((eachD d g (2 + k * g.gr.toNat + i)).V (2 + k * g.gr.toNat + i)).length < _; rw [hVi]; decide)
          conv => whnf
          refine VCall.ret (by kernel_rfl) (fun w hs => hDW w hs) ?_ ?_
          · rintro j hj; exact ⟨j2'.dom j hj, j6 j hj⟩
          rintro v H6 hk6 hd6 ⟨hp6⟩
          have hbn : 0 ≤ IntKind.i64.wrap (2 + (k : Int) * g.gr + (i : Int)) ∧ IntKind.i64.wrap (2 + (k : Int) * g.gr + (i : Int)) < (eachD d g (2 + k * g.gr.toNat + i)).n := by rw [eadd]; show 0 ≤ _ ∧ _ < (d.n : Int); omega
          rw [if_pos hbn, if_pos rfl, eadd] at hp6
          obtain ⟨rfl, F6, hdk6, hg6⟩ := hp6
          have e6 : ((2 + k * g.gr.toNat + i : Nat) : Int).toNat = 2 + k * g.gr.toNat + i := rfl
          rw [e6, eachD_write d g _ (metaB_at hg h1 (by omega))] at hdk6
          have h66 := grow_new hg6 hdk6.dom hd6
          (conv => whnf); repeat first | (refine drw (by decide +kernel) ?_; conv => whnf) | (refine fun (_ : Nat) (_ : _ ≤ _) (_ : _ = none) => ?_; conv => whnf)
          rw [ei]
          refine ⟨(H6, F6, fresh r4 256, i + 1), ⟨by dsimp only; omega, hdk6, ?_, ?_, fun h => (by cases h), ?_⟩, by dsimp only; omega, ⟨rfl, rfl, rfl, rfl, rfl, rfl, rfl, rfl, trivial⟩, ⟨[], rfl⟩, rfl⟩
          · refine ⟨fun j hj => ?_, fun j hj => hg6.inn j (j3.inn j hj)⟩
            rcases hg6.out j hj with h | h
            · exact j3.out j h
            · by_cases hf : F j
              · exact .inl hf
              · right
                cases hh : H j with
                | none => rfl
                | some o => rw [UPP _ _ (j4 j o hh hf)] at h; cases h
          · intro j o h hf
            refine hk6 j o (UPP _ _ (j4 j o h hf)) (fun hfy => ?_)
            rcases j3.out j hfy with h' | h'
            · exact hf h'
            · rw [h] at h'; cases h'
          · intro j hj
            rcases h66 j hj with h | h
            · exact j6 j h
            · exact .inr h
      · have h3 : ¬ (i : Int) > 0 := h3
        have hi0 : i = 0 := by omega
        obtain ⟨r5, rfl, hb5⟩ := j5 hi0
        rw [← hi0] at hb5
        (conv => whnf); repeat first | (refine drw (by decide +kernel) ?_; conv => whnf) | (refine fun (_ : Nat) (_ : _ ≤ _) (_ : _ = none) => ?_; conv => whnf)
        have UPP : ∀ j o, Hy j = some o → Hy j = some o := fun j o ho => ho
        refine vif_dec (fun h5 => ?_) (fun h5 => ?_)
        · (conv => whnf); repeat first | (refine drw (by decide +kernel) ?_; conv => whnf) | (refine fun (_ : Nat) (_ : _ ≤ _) (_ : _ = none) => ?_; conv => whnf)
          refine vif_dec (fun h6 => ?_) (fun h6 => ?_)
          · have h6 : (i : Int) = 1 := h6
            omega
          (conv => whnf); repeat first | (refine drw (by decide +kernel) ?_; conv => whnf) | (refine fun (_ : Nat) (_ : _ ≤ _) (_ : _ = none) => ?_; conv => whnf)
          have j2' := j2.mono (H' := Hy) (fun j o _ ho => UPP j o ho)
          have hDW := fun w hs => dwrite_ok (H := Hy) (a := some ⟨r5, 0, none⟩) (n := 256) (c := 256) (xs := grpB g k i) (IntKind.i64.wrap (2 + (k : Int) * g.gr + (i : Int))) w hs j2' (hb5.all' (grpB_len g k i) 256 (Nat.le_refl _)) (by decide) (fun _ => by rw [eadd]; show ((eachD d g (2 + k * g.gr.toNat + i)).V (2 + k * g.gr.toNat + i)).length < _; rw [hVi]; decide)
          conv => whnf
          refine VCall.ret (by kernel_rfl) (fun w hs => hDW w hs) ?_ ?_
          · rintro j hj; exact ⟨j2'.dom j hj, j6 j hj⟩
          rintro v H6 hk6 hd6 ⟨hp6⟩
          have hbn : 0 ≤ IntKind.i64.wrap (2 + (k : Int) * g.gr + (i : Int)) ∧ IntKind.i64.wrap (2 + (k : Int) * g.gr + (i : Int)) < (eachD d g (2 + k * g.gr.toNat + i)).n := by rw [eadd]; show 0 ≤ _ ∧ _ < (d.n : Int); omega
          rw [if_pos hbn, if_pos rfl, eadd] at hp6
          obtain ⟨rfl, F6, hdk6, hg6⟩ := hp6
          have e6 : ((2 + k * g.gr.toNat + i : Nat) : Int).toNat = 2 + k * g.gr.toNat + i := rfl
          rw [e6, eachD_write d g _ (metaB_at hg h1 (by omega))] at hdk6
          have h66 := grow_new hg6 hdk6.dom hd6
          (conv => whnf); repeat first | (refine drw (by decide +kernel) ?_; conv => whnf) | (refine fun (_ : Nat) (_ : _ ≤ _) (_ : _ = none) => ?_; conv => whnf)
          rw [ei]
          refine ⟨(H6, F6, fresh r5 256, i + 1), ⟨by dsimp only; omega, hdk6, ?_, ?_, fun h => (by cases h), ?_⟩, by dsimp only; omega, ⟨rfl, rfl, rfl, rfl, rfl, rfl, rfl, rfl, trivial⟩, ⟨[], rfl⟩, rfl⟩
          · refine ⟨fun j hj => ?_, fun j hj => hg6.inn j (j3.inn j hj)⟩
            rcases hg6.out j hj with h | h
            · exact j3.out j h
            · by_cases hf : F j
              · exact .inl hf
              · right
                cases hh : H j with
                | none => rfl
                | some o => rw [UPP _ _ (j4 j o hh hf)] at h; cases h
          · intro j o h hf
            refine hk6 j o (UPP _ _ (j4 j o h hf)) (fun hfy => ?_)
            rcases j3.out j hfy with h' | h'
            · exact hf h'
            · rw [h] at h'; cases h'
          · intro j hj
            rcases h66 j hj with h | h
            · exact j6 j h
            · exact .inr h
        · (conv => whnf); repeat first | (refine drw (by decide +kernel) ?_; conv => whnf) | (refine fun (_ : Nat) (_ : _ ≤ _) (_ : _ = none) => ?_; conv => whnf)
          have j2' := j2.mono (H' := Hy) (fun j o _ ho => UPP j o ho)
          have hDW := fun w hs => dwrite_ok (H := Hy) (a := some ⟨r5, 0, none⟩) (n := 256) (c := 256) (xs := grpB g k i) (IntKind.i64.wrap (2 + (k : Int) * g.gr + (i : Int))) w hs j2' (hb5.all' (grpB_len g k i) 256 (Nat.le_refl _)) (by decide) (fun _ => by rw [eadd]; show ((eachD d g (2 + k * g.gr.toNat + i)).V (2 + k * g.gr.toNat + i)).length < _; rw [hVi]; decide)
          conv => whnf
          refine VCall.ret (by kernel_rfl) (fun w hs => hDW w hs) ?_ ?_
          · rintro j hj; exact ⟨j2'.dom j hj, j6 j hj⟩
          rintro v H6 hk6 hd6 ⟨hp6⟩
          have hbn : 0 ≤ IntKind.i64.wrap (2 + (k : Int) * g.gr + (i : Int)) ∧ IntKind.i64.wrap (2 + (k : Int) * g.gr + (i : Int)) < (eachD d g (2 + k * g.gr.toNat + i)).n := by rw [eadd]; show 0 ≤ _ ∧ _ < (d.n : Int); omega
          rw [if_pos hbn, if_pos rfl, eadd] at hp6
          obtain ⟨rfl, F6, hdk6, hg6⟩ := hp6
          have e6 : ((2 + k * g.gr.toNat + i : Nat) : Int).toNat = 2 + k * g.gr.toNat + i := rfl
          rw [e6, eachD_write d g _ (metaB_at hg h1 (by omega))] at hdk6
          have h66 := grow_new hg6 hdk6.dom hd6
          (conv => whnf); repeat first | (refine drw (by decide +kernel) ?_; conv => whnf) | (refine fun (_ : Nat) (_ : _ ≤ _) (_ : _ = none) => ?_; conv => whnf)
          rw [ei]
          refine ⟨(H6, F6, fresh r5 256, i + 1), ⟨by dsimp only; omega, hdk6, ?_, ?_, fun h => (by cases h), ?_⟩, by dsimp only; omega, ⟨rfl, rfl, rfl, rfl, rfl, rfl, rfl, rfl, trivial⟩, ⟨[], rfl⟩, rfl⟩
          · refine ⟨fun j hj => ?_, fun j hj => hg6.inn j (j3.inn j hj)⟩
            rcases hg6.out j hj with h | h
            · exact j3.out j h
            · by_cases hf : F j
              · exact .inl hf
              · right
                cases hh : H j with
                | none => rfl
                | some o => rw [UPP _ _ (j4 j o hh hf)] at h; cases h
          · intro j o h hf
            refine hk6 j o (UPP _ _ (j4 j o h hf)) (fun hfy => ?_)
            rcases j3.out j hfy with h' | h'
            · exact hf h'
            · rw [h] at h'; cases h'
          · intro j hj
            rcases h66 j hj with h | h
            · exact j6 j h
            · exact .inr h
    · have h2 : ¬ (i : Int) < 1 + g.inn / 4 := h2
      (conv => whnf); repeat first | (refine drw (by decide +kernel) ?_; conv => whnf) | (refine fun (_ : Nat) (_ : _ ≤ _) (_ : _ = none) => ?_; conv => whnf)
      have ek : IntKind.i64.wrap ((k : Int) + 1) = ((k + 1 : Nat) : Int) := by rw [wrap64 (by omega)]; rfl
      rw [ek]
      refine ⟨(Hy, Fy, k + 1), ⟨by dsimp only; omega, ?_, j3, j4, j6⟩, by dsimp only; omega, ⟨rfl, rfl, rfl, rfl, trivial⟩, ⟨[], rfl⟩, rfl⟩
      dsimp only
      rw [eachD_skip d g (t := 2 + (k + 1) * g.gr.toNat) (by rw [Nat.add_mul, Nat.one_mul]; omega) (fun b hb1 hb2 => ?_)] at j2
      · exact j2
      · rw [Nat.add_mul, Nat.one_mul] at hb2
        obtain ⟨t, rfl⟩ : ∃ t, b = 2 + k * g.gr.toNat + t := ⟨b - (2 + k * g.gr.toNat), by omega⟩
        exact metaB_gap hg (by omega) (by omega)
  · have h1 : ¬ (k : Int) < g.gs := h1
    have hkk : k = g.gs.toNat := by omega
    subst hkk
    (conv => whnf); repeat first | (refine drw (by decide +kernel) ?_; conv => whnf) | (refine fun (_ : Nat) (_ : _ ≤ _) (_ : _ = none) => ?_; conv => whnf)
    exact ⟨rfl, Fx, i2, i3⟩
end Go.Proofs.YtlkgjffffeohdaaGreat
