/- What a group's header says. -/
import Derived.Test.YtlkgjffffeohdaaGreatBits
set_option linter.unusedVariables false
set_option linter.unusedSimpArgs false
namespace Go.Proofs.YtlkgjffffeohdaaGreat
open Go Go.Eng Go.Proofs

/-- the first bits are set -/
def orB (bs : List UInt8) (i : Nat) : List UInt8 := bs.set (i / 8) (bs.getD (i / 8) 0 ||| mask (i % 8))
def firstBits : Nat → List UInt8
  | 0 => List.replicate 24 0
  | k + 1 => orB (firstBits k) k
theorem firstBits_len : ∀ k, (firstBits k).length = 24
  | 0 => by simp [firstBits]
  | k + 1 => by simp [firstBits, orB, firstBits_len k]

/-- a new group's header -/
def freshM (g : G) (no : Int) : List UInt8 := if no = 0 then (firstBits (1 + g.tables).toNat).set 16 3 else firstBits (1 + g.tables).toNat
theorem freshM_len (g : G) (no : Int) : (freshM g no).length = 24 := by
  unfold freshM; split <;> simp [firstBits_len]

theorem tables_small (g : G) : 0 ≤ g.tables ∧ g.tables ≤ 16 := by
  have hk := gok_iff g
  unfold G.tables
  split
  · rename_i h; have := hk.1 h; omega
  · omega

theorem base_ok (g : G) (no : Int) (w : World) : Calls Tryz.prog 255 #[gV g, iV no] w (RetP (hV ⟨no, freshM g no⟩) w) := by
  refine fn_pure (H0 := (fun _ => none)) (args := [gV g, iV no]) tabH Tryz.func255 rfl (by kernel_rfl)  (fun _ _ h => by cases h) ?_
  have ht := tables_small g
  (conv => whnf); repeat first | (refine drw (by decide +kernel) ?_; conv => whnf) | (refine fun (_ : Nat) (_ : _ ≤ _) (_ : _ = none) => ?_; conv => whnf)
  intro r1 H1 hB1 hN1 hE1
  (conv => whnf); repeat first | (refine drw (by decide +kernel) ?_; conv => whnf) | (refine fun (_ : Nat) (_ : _ ≤ _) (_ : _ = none) => ?_; conv => whnf)
  intro r2 H2 hB2 hN2 hE2
  (conv => whnf); repeat first | (refine drw (by decide +kernel) ?_; conv => whnf) | (refine fun (_ : Nat) (_ : _ ≤ _) (_ : _ = none) => ?_; conv => whnf)
  have ho1 : HO H1 r1 hZ := ⟨_, hE1.new⟩
  have ho2 : HO H2 r2 hZ := ⟨_, hE2.new⟩
  have ne12 : r1 ≠ r2 := fun e => by subst e; rw [hE1.new] at hN2; cases hN2
  refine ⟨rfl, HO.put (h2 := ⟨no, List.replicate 24 0⟩) ho2 (by simp [hZ]) (.inr hB2) ?_⟩
  intro H3 hk3 ho3
  have ho13 : HO H3 r1 hZ := ho1.mono (fun o ho => hk3 r1 o ne12 (hE2.old _ _ ho))
  (conv => whnf); repeat first | (refine drw (by decide +kernel) ?_; conv => whnf) | (refine fun (_ : Nat) (_ : _ ≤ _) (_ : _ = none) => ?_; conv => whnf)
  (refine VCall.pure_ (by kernel_rfl) (fun w hs => gtables_ok _ w) ?_); (conv => whnf); repeat first | (refine drw (by decide +kernel) ?_; conv => whnf) | (refine fun (_ : Nat) (_ : _ ≤ _) (_ : _ = none) => ?_; conv => whnf)
  rw [wrap64 (by omega)]
  obtain ⟨n, hn⟩ : ∃ n : Nat, 1 + g.tables = n := ⟨(1 + g.tables).toNat, by omega⟩
  rw [hn]
  refine VLoop.ok (X := Nat × HV) (fun x => [(12, .v (.int .i64 x.1)), (11, .v (.int .i64 n)), (1, .v (iV no)), (4, .v (.pointer (some ⟨r1, 0, none⟩))), (5, .v (.pointer (some ⟨r2, 0, none⟩)))]) (fun x => x.2)
    (fun x => x.1 ≤ n ∧ HO x.2 r1 hZ ∧ HO x.2 r2 ⟨no, firstBits x.1⟩) (fun x => n - x.1) tabH (by kernel_rfl) rfl (fun _ => rfl) (0, H3) ⟨Nat.zero_le _, ho13, ho3⟩ ⟨rfl, rfl, rfl, rfl, rfl, trivial⟩ rfl ?_
  intro x hi
  obtain ⟨hi1, hi2, hi3⟩ := hi
  have hln := firstBits_len x.1
  (conv => whnf); repeat first | (refine drw (by decide +kernel) ?_; conv => whnf) | (refine fun (_ : Nat) (_ : _ ≤ _) (_ : _ = none) => ?_; conv => whnf)
  refine vif_dec (fun h1 => ?_) (fun h1 => ?_)
  · have nx : IntKind.wrap .i64 ((x.1 : Int) + 1) = ((x.1 + 1 : Nat) : Int) := by rw [wrap64 (by omega)]; rfl
    have e1 : IntKind.i64.wrap ((x.1 : Int).tdiv 8) = ((x.1 / 8 : Nat) : Int) := by rw [tdiv_nn (by omega), wrap64 (by omega)]; rfl
    have e2 : (x.1 : Int).tmod 8 = ((x.1 % 8 : Nat) : Int) := by rw [tmod_nn (by omega)]; rfl
    (conv => whnf); repeat first | (refine drw (by decide +kernel) ?_; conv => whnf) | (refine fun (_ : Nat) (_ : _ ≤ _) (_ : _ = none) => ?_; conv => whnf)
    refine ⟨by decide, ?_⟩
    (conv => whnf); repeat first | (refine drw (by decide +kernel) ?_; conv => whnf) | (refine fun (_ : Nat) (_ : _ ≤ _) (_ : _ = none) => ?_; conv => whnf)
    rw [e1]
    refine ⟨⟨by omega, by omega⟩, ?_⟩
    (conv => whnf); repeat first | (refine drw (by decide +kernel) ?_; conv => whnf) | (refine fun (_ : Nat) (_ : _ ≤ _) (_ : _ = none) => ?_; conv => whnf)
    refine ⟨_, hi3.cell' (x.1 / 8) (by dsimp only; omega), ?_⟩
    (conv => whnf); repeat first | (refine drw (by decide +kernel) ?_; conv => whnf) | (refine fun (_ : Nat) (_ : _ ≤ _) (_ : _ = none) => ?_; conv => whnf)
    refine ⟨by decide, ?_⟩
    (conv => whnf); repeat first | (refine drw (by decide +kernel) ?_; conv => whnf) | (refine fun (_ : Nat) (_ : _ ≤ _) (_ : _ = none) => ?_; conv => whnf)
    rw [e2]
    refine ⟨by omega, ?_⟩
    (conv => whnf); repeat first | (refine drw (by decide +kernel) ?_; conv => whnf) | (refine fun (_ : Nat) (_ : _ ≤ _) (_ : _ = none) => ?_; conv => whnf)
    refine ⟨⟨by omega, by omega⟩, ?_⟩
    (conv => whnf); repeat first | (refine drw (by decide +kernel) ?_; conv => whnf) | (refine fun (_ : Nat) (_ : _ ≤ _) (_ : _ = none) => ?_; conv => whnf)
    refine ⟨rfl, HO.put1 hi3 (x.1 / 8) (by dsimp only; omega) ((firstBits x.1).getD (x.1 / 8) 0 ||| mask (x.1 % 8)) ?_ (.inr hB2) ?_⟩
    · rw [← (bitI_u8 _ _).1, ← wrap_mask (k := x.1 % 8) (by omega)]; rfl
    intro H4 hk4 ho4
    (conv => whnf); repeat first | (refine drw (by decide +kernel) ?_; conv => whnf) | (refine fun (_ : Nat) (_ : _ ≤ _) (_ : _ = none) => ?_; conv => whnf)
    exact ⟨(x.1 + 1, H4), ⟨by dsimp only; omega, hi2.mono (fun o ho => hk4 r1 o ne12 ho), ho4⟩, by dsimp only; omega, ⟨congrArg (fun n => some (SV.v (.int .i64 n))) nx, rfl, rfl, rfl, rfl, trivial⟩, ⟨[], rfl⟩, rfl⟩
  · have hxn : x.1 = n := by omega
    (conv => whnf); repeat first | (refine drw (by decide +kernel) ?_; conv => whnf) | (refine fun (_ : Nat) (_ : _ ≤ _) (_ : _ = none) => ?_; conv => whnf)
    refine vif_dec (fun h2 => ?_) (fun h2 => ?_)
    · (conv => whnf); repeat first | (refine drw (by decide +kernel) ?_; conv => whnf) | (refine fun (_ : Nat) (_ : _ ≤ _) (_ : _ = none) => ?_; conv => whnf)
      refine ⟨⟨by decide, by decide⟩, ?_⟩
      (conv => whnf); repeat first | (refine drw (by decide +kernel) ?_; conv => whnf) | (refine fun (_ : Nat) (_ : _ ≤ _) (_ : _ = none) => ?_; conv => whnf)
      have hm : splice (firstBits x.1) 16 [3] = freshM g no := by
        unfold freshM; rw [if_pos h2, splice_one _ _ _ (by omega), hxn, hn]; rfl
      refine ⟨rfl, HO.store hi3 [3] 16 (by dsimp only; simp; omega) (.inr hB2) ?_⟩
      intro H4 hk4 ho4
      dsimp only at ho4
      rw [hm] at ho4
      (conv => whnf); repeat first | (refine drw (by decide +kernel) ?_; conv => whnf) | (refine fun (_ : Nat) (_ : _ ≤ _) (_ : _ = none) => ?_; conv => whnf)
      refine ⟨_, ho4.agg (freshM_len g no), ?_⟩
      (conv => whnf); repeat first | (refine drw (by decide +kernel) ?_; conv => whnf) | (refine fun (_ : Nat) (_ : _ ≤ _) (_ : _ = none) => ?_; conv => whnf)
      refine ⟨by simp [cellsOf, Value.cells, hL, bytesV, freshM_len], HO.put (h2 := ⟨no, freshM g no⟩) (hi2.mono (fun o ho => hk4 r1 o ne12 ho)) (by simp [hZ, freshM_len]) (.inr hB1) ?_⟩
      intro H5 hk5 ho5
      (conv => whnf); repeat first | (refine drw (by decide +kernel) ?_; conv => whnf) | (refine fun (_ : Nat) (_ : _ ≤ _) (_ : _ = none) => ?_; conv => whnf)
      refine ⟨_, ho5.agg (freshM_len g no), rfl⟩
    · (conv => whnf); repeat first | (refine drw (by decide +kernel) ?_; conv => whnf) | (refine fun (_ : Nat) (_ : _ ≤ _) (_ : _ = none) => ?_; conv => whnf)
      have hm : firstBits x.1 = freshM g no := by
        unfold freshM; rw [if_neg h2, hxn, hn]; rfl
      rw [hm] at hi3
      refine ⟨_, hi3.agg (freshM_len g no), ?_⟩
      (conv => whnf); repeat first | (refine drw (by decide +kernel) ?_; conv => whnf) | (refine fun (_ : Nat) (_ : _ ≤ _) (_ : _ = none) => ?_; conv => whnf)
      refine ⟨by simp [cellsOf, Value.cells, hL, bytesV, freshM_len], HO.put (h2 := ⟨no, freshM g no⟩) hi2 (by simp [hZ, freshM_len]) (.inr hB1) ?_⟩
      intro H5 hk5 ho5
      (conv => whnf); repeat first | (refine drw (by decide +kernel) ?_; conv => whnf) | (refine fun (_ : Nat) (_ : _ ≤ _) (_ : _ = none) => ?_; conv => whnf)
      refine ⟨_, ho5.agg (freshM_len g no), rfl⟩

def hVE (h : Hd) (e : Int) : Value := .tuple #[hV h, iV e]

theorem fresh_ok (g : G) (no : Int) (w : World) : Calls Tryz.prog 173 #[gV g, iV no] w (RetP (if g.ok ∧ 0 ≤ no ∧ no < g.gs then hVE ⟨no, freshM g no⟩ 0 else hVE hZ 1) w) := by
  refine fn_pure (H0 := (fun _ => none)) (args := [gV g, iV no]) tabH Tryz.func173 rfl (by kernel_rfl)  (fun _ _ h => by cases h) ?_
  (conv => whnf); repeat first | (refine drw (by decide +kernel) ?_; conv => whnf) | (refine fun (_ : Nat) (_ : _ ≤ _) (_ : _ = none) => ?_; conv => whnf)
  intro r1 H1 hB1 hN1 hE1
  (conv => whnf); repeat first | (refine drw (by decide +kernel) ?_; conv => whnf) | (refine fun (_ : Nat) (_ : _ ≤ _) (_ : _ = none) => ?_; conv => whnf)
  have ho1 : HO H1 r1 hZ := ⟨_, hE1.new⟩
  (refine VCall.pure_ (by kernel_rfl) (fun w hs => ghead_ok _ _ w) ?_); (conv => whnf); repeat first | (refine drw (by decide +kernel) ?_; conv => whnf) | (refine fun (_ : Nat) (_ : _ ≤ _) (_ : _ = none) => ?_; conv => whnf)
  refine vif_not (fun h1 => ?_) (fun h1 => ?_)
  · (conv => whnf); repeat first | (refine drw (by decide +kernel) ?_; conv => whnf) | (refine fun (_ : Nat) (_ : _ ≤ _) (_ : _ = none) => ?_; conv => whnf)
    refine ⟨rfl, HO.put (h2 := hZ) ho1 rfl (.inr hB1) ?_⟩
    intro H2 hk2 ho2
    (conv => whnf); repeat first | (refine drw (by decide +kernel) ?_; conv => whnf) | (refine fun (_ : Nat) (_ : _ ≤ _) (_ : _ = none) => ?_; conv => whnf)
    have : ¬ (g.ok ∧ 0 ≤ no ∧ no < g.gs) := fun h => by
      unfold G.head at h1; rw [if_pos h.1, if_pos h.2] at h1; exact h1 rfl
    rw [if_neg this]
    exact ⟨_, ho2.agg (by simp [hZ]), rfl⟩
  · (conv => whnf); repeat first | (refine drw (by decide +kernel) ?_; conv => whnf) | (refine fun (_ : Nat) (_ : _ ≤ _) (_ : _ = none) => ?_; conv => whnf)
    have : g.ok ∧ 0 ≤ no ∧ no < g.gs := by
      unfold G.head at h1
      split at h1
      · split at h1
        · exact ⟨by assumption, by assumption⟩
        · simp at h1
      · simp at h1
    rw [if_pos this]
    (refine VCall.pure_ (by kernel_rfl) (fun w hs => base_ok _ _ w) ?_); (conv => whnf); repeat first | (refine drw (by decide +kernel) ?_; conv => whnf) | (refine fun (_ : Nat) (_ : _ ≤ _) (_ : _ = none) => ?_; conv => whnf)
    refine ⟨by show (hL _).length = 25; simp [hL, bytesV, freshM_len], HO.put (h2 := ⟨no, freshM g no⟩) ho1 (by simp [hZ, freshM_len]) (.inr hB1) ?_⟩
    intro H2 hk2 ho2
    (conv => whnf); repeat first | (refine drw (by decide +kernel) ?_; conv => whnf) | (refine fun (_ : Nat) (_ : _ ≤ _) (_ : _ = none) => ?_; conv => whnf)
    exact ⟨_, ho2.agg (freshM_len g no), rfl⟩

def mixM (m x : List UInt8) (k : Nat) : List UInt8 := (List.range 24).map (fun i => if i < k then m.getD i 0 ||| x.getD i 0 else 0)
theorem mixM_len (m x : List UInt8) (k : Nat) : (mixM m x k).length = 24 := by simp [mixM]
theorem mixM_succ (m x : List UInt8) (k : Nat) : (mixM m x k).set k (m.getD k 0 ||| x.getD k 0) = mixM m x (k + 1) := by
  refine List.ext_getElem (by simp [mixM]) fun i h1 h2 => ?_
  simp only [mixM, List.getElem_set, List.getElem_map, List.getElem_range]
  by_cases hk : k = i
  · subst hk; simp
  · rw [if_neg hk]
    by_cases hi : i < k
    · rw [if_pos hi, if_pos (by omega)]
    · rw [if_neg hi, if_neg (by omega)]

/-- can a header be? -/
def rightB (g : G) (h : Hd) : Bool :=
  decide (g.ok ∧ 0 ≤ h.no ∧ h.no < g.gs) && (decide (mixM h.m (freshM g h.no) 24 = h.m) &&
    (decide (cntB h.blk (mostB h.blk g.gr) = cntB h.blk (mostB h.blk 128)) && decide (cntB h.slt (mostB h.slt g.inn) = cntB h.slt (mostB h.slt 64))))

theorem byte_eqF (d : Nat) : EqF Tryz.prog (d + 1) 5 false [.u8] := EqF_intB (by kernel_rfl) d
theorem b16_eqF (d : Nat) : EqF Tryz.prog (d + 1 + 1) 85 true (List.replicate 16 [.u8]).flatten := EqF_arrayB (n := 16) (by kernel_rfl) (byte_eqF d)
theorem b8_eqF (d : Nat) : EqF Tryz.prog (d + 1 + 1) 86 true (List.replicate 8 [.u8]).flatten := EqF_arrayB (n := 8) (by kernel_rfl) (byte_eqF d)

theorem KV_n (n : Nat) (bs : List UInt8) (h : bs.length = n) : KV (List.replicate n [.u8]).flatten (bytesV bs) := by
  have : (List.replicate n [IntKind.u8]).flatten = List.replicate n .u8 := by
    clear h
    induction n with
    | zero => rfl
    | succ n ih => rw [List.replicate_succ, List.flatten_cons, ih]; rfl
  rw [this, ← h]
  exact KV_bytes bs

theorem b16_eq (bs cs : List UInt8) (h1 : bs.length = 16) (h2 : cs.length = 16) : ∀ w : World, (Op.equal 85 (.agg ⟨bytesV bs⟩) (.agg ⟨bytesV cs⟩)).run Tryz.prog w = .ok (decide (bs = cs)) w :=
  eq_flat (b16_eqF 9998) rfl (KV_n 16 bs h1) (KV_n 16 cs h2) (by rw [decide_eq_true_iff]; exact ⟨fun h => by rw [h], bytesV_inj⟩)

theorem b8_eq (bs cs : List UInt8) (h1 : bs.length = 8) (h2 : cs.length = 8) : ∀ w : World, (Op.equal 86 (.agg ⟨bytesV bs⟩) (.agg ⟨bytesV cs⟩)).run Tryz.prog w = .ok (decide (bs = cs)) w :=
  eq_flat (b8_eqF 9998) rfl (KV_n 8 bs h1) (KV_n 8 cs h2) (by rw [decide_eq_true_iff]; exact ⟨fun h => by rw [h], bytesV_inj⟩)

theorem rightB_of {g : G} {h : Hd} (hf : g.ok ∧ 0 ≤ h.no ∧ h.no < g.gs) (hm : h.m.length = 24) {c1 c2 : Bool} (e1 : decide (cntB h.blk (mostB h.blk g.gr) = cntB h.blk (mostB h.blk 128)) = c1)
    (e2 : decide (cntB h.slt (mostB h.slt g.inn) = cntB h.slt (mostB h.slt 64)) = c2) :
    rightB g h = ((decide ((mixM h.m (freshM g h.no) 24).take 16 = h.m.take 16) && decide ((mixM h.m (freshM g h.no) 24).drop 16 = h.m.drop 16)) && (c1 && c2)) := by
  unfold rightB
  rw [e1, e2, decide_eq_true hf, Bool.true_and]
  congr 1
  rw [Bool.eq_iff_iff]
  simp only [decide_eq_true_iff, Bool.and_eq_true]
  constructor
  · intro h; rw [h]; exact ⟨rfl, rfl⟩
  · rintro ⟨h1, h2⟩
    rw [← List.take_append_drop 16 (mixM h.m (freshM g h.no) 24), h1, h2, List.take_append_drop]

theorem right_ok (g : G) (h : Hd) (hm : h.m.length = 24) (w : World) : Calls Tryz.prog 203 #[gV g, hV h] w (RetP (bV (rightB g h)) w) := by
  refine fn_pure (H0 := (fun _ => none)) (args := [gV g, hV h]) tabH Tryz.func203 rfl (by kernel_rfl)  (fun _ _ h => by cases h) ?_
  conv => whnf
  intro rg hBg hNg
  conv => whnf
  intro r1 H1 hB1 hN1 hE1
  (conv => whnf); repeat first | (refine drw (by decide +kernel) ?_; conv => whnf) | (refine fun (_ : Nat) (_ : _ ≤ _) (_ : _ = none) => ?_; conv => whnf)
  have ho1 : HO H1 r1 h := ⟨_, hE1.new⟩
  refine ⟨_, ho1.no, ?_⟩
  (conv => whnf); repeat first | (refine drw (by decide +kernel) ?_; conv => whnf) | (refine fun (_ : Nat) (_ : _ ≤ _) (_ : _ = none) => ?_; conv => whnf)
  (refine VCall.pure_ (by kernel_rfl) (fun w hs => fresh_ok _ _ w) ?_); (conv => whnf); repeat first | (refine drw (by decide +kernel) ?_; conv => whnf) | (refine fun (_ : Nat) (_ : _ ≤ _) (_ : _ = none) => ?_; conv => whnf)
  by_cases hf : g.ok ∧ 0 ≤ h.no ∧ h.no < g.gs
  · rw [if_pos hf]
    have hlx := freshM_len g h.no
    generalize hx : freshM g h.no = x at *
    (conv => whnf); repeat first | (refine drw (by decide +kernel) ?_; conv => whnf) | (refine fun (_ : Nat) (_ : _ ≤ _) (_ : _ = none) => ?_; conv => whnf)
    intro r2 H2 hB2 hN2 hE2
    have n12 : r1 ≠ r2 := fun e => by subst e; rw [hE1.new] at hN2; cases hN2
    (conv => whnf); repeat first | (refine drw (by decide +kernel) ?_; conv => whnf) | (refine fun (_ : Nat) (_ : _ ≤ _) (_ : _ = none) => ?_; conv => whnf)
    refine ⟨by show (hL _).length = 25; simp [hL, bytesV, hlx], HO.put (h := hZ) (h2 := ⟨h.no, x⟩) ⟨_, hE2.new⟩ (by simp [hZ, hlx]) (.inr hB2) ?_⟩
    intro H3 hk3 ho32
    have ho31 : HO H3 r1 h := ho1.mono (fun o ho => hk3 r1 o n12 (hE2.old _ _ ho))
    (conv => whnf); repeat first | (refine drw (by decide +kernel) ?_; conv => whnf) | (refine fun (_ : Nat) (_ : _ ≤ _) (_ : _ = none) => ?_; conv => whnf)
    refine ⟨_, ho31.no, ?_⟩
    (conv => whnf); repeat first | (refine drw (by decide +kernel) ?_; conv => whnf) | (refine fun (_ : Nat) (_ : _ ≤ _) (_ : _ = none) => ?_; conv => whnf)
    intro r3 H4 hB4 hN4 hE4
    have n13 : r1 ≠ r3 := fun e => by subst e; obtain ⟨ty, ho⟩ := ho31; rw [ho] at hN4; cases hN4
    have n23 : r2 ≠ r3 := fun e => by subst e; obtain ⟨ty, ho⟩ := ho32; rw [ho] at hN4; cases hN4
    (conv => whnf); repeat first | (refine drw (by decide +kernel) ?_; conv => whnf) | (refine fun (_ : Nat) (_ : _ ≤ _) (_ : _ = none) => ?_; conv => whnf)
    refine ⟨rfl, HO.put (h := hZ) (h2 := ⟨h.no, mixM h.m x 0⟩) ⟨_, hE4.new⟩ (by simp [hZ, mixM_len]) (.inr hB4) ?_⟩
    intro H5 hk5 ho53
    have ho51 : HO H5 r1 h := ho31.mono (fun o ho => hk5 r1 o n13 (hE4.old _ _ ho))
    have ho52 : HO H5 r2 ⟨h.no, x⟩ := ho32.mono (fun o ho => hk5 r2 o n23 (hE4.old _ _ ho))
    (conv => whnf); repeat first | (refine drw (by decide +kernel) ?_; conv => whnf) | (refine fun (_ : Nat) (_ : _ ≤ _) (_ : _ = none) => ?_; conv => whnf)
    refine ⟨_, ho51.part 0 16 (by omega), ?_⟩
    (conv => whnf); repeat first | (refine drw (by decide +kernel) ?_; conv => whnf) | (refine fun (_ : Nat) (_ : _ ≤ _) (_ : _ = none) => ?_; conv => whnf)
    refine VLoop.ok (X := Nat × HV) (fun z => [(27, .v (.int .i64 z.1)), (26, .v (.agg ⟨bytesV ((h.m.drop 0).take 16)⟩)), (2, .p 0 rg 0), (3, .v (.pointer (some ⟨r1, 0, none⟩))), (5, .v (.pointer (some ⟨r2, 0, none⟩))), (7, .v (.pointer (some ⟨r3, 0, none⟩)))]) (fun z => z.2)
      (fun z => z.1 ≤ 16 ∧ HO z.2 r1 h ∧ HO z.2 r2 ⟨h.no, x⟩ ∧ HO z.2 r3 ⟨h.no, mixM h.m x z.1⟩) (fun z => 16 - z.1) tabH (by kernel_rfl) rfl (fun _ => rfl) (0, H5) ⟨Nat.zero_le _, ho51, ho52, ho53⟩ ⟨rfl, rfl, rfl, rfl, rfl, rfl, trivial⟩ rfl ?_
    rintro z ⟨hi1, hi2, hi3, hi4⟩
    have hlm := mixM_len h.m x z.1
    (conv => whnf); repeat first | (refine drw (by decide +kernel) ?_; conv => whnf) | (refine fun (_ : Nat) (_ : _ ≤ _) (_ : _ = none) => ?_; conv => whnf)
    refine vif_dec (fun h1 => ?_) (fun h1 => ?_)
    · have hi0 : z.1 < 16 := by omega
      have nx : IntKind.wrap .i64 ((z.1 : Int) + 1) = ((z.1 + 1 : Nat) : Int) := by rw [wrap64 (by omega)]; rfl
      (conv => whnf); repeat first | (refine drw (by decide +kernel) ?_; conv => whnf) | (refine fun (_ : Nat) (_ : _ ≤ _) (_ : _ = none) => ?_; conv => whnf)
      refine ⟨⟨by omega, by omega⟩, ?_⟩
      (conv => whnf); repeat first | (refine drw (by decide +kernel) ?_; conv => whnf) | (refine fun (_ : Nat) (_ : _ ≤ _) (_ : _ = none) => ?_; conv => whnf)
      refine ⟨.int .u8 (h.m.getD z.1 0).toNat, ?_, ?_⟩
      · exact idx_bytes _ z.1 (by simp; omega) (by simp [List.getD, List.getElem?_take, hi0])
      (conv => whnf); repeat first | (refine drw (by decide +kernel) ?_; conv => whnf) | (refine fun (_ : Nat) (_ : _ ≤ _) (_ : _ = none) => ?_; conv => whnf)
      refine ⟨⟨by omega, by omega⟩, ?_⟩
      (conv => whnf); repeat first | (refine drw (by decide +kernel) ?_; conv => whnf) | (refine fun (_ : Nat) (_ : _ ≤ _) (_ : _ = none) => ?_; conv => whnf)
      refine ⟨_, hi3.cell' z.1 (by dsimp only; omega), ?_⟩
      (conv => whnf); repeat first | (refine drw (by decide +kernel) ?_; conv => whnf) | (refine fun (_ : Nat) (_ : _ ≤ _) (_ : _ = none) => ?_; conv => whnf)
      refine ⟨⟨by omega, by omega⟩, ?_⟩
      (conv => whnf); repeat first | (refine drw (by decide +kernel) ?_; conv => whnf) | (refine fun (_ : Nat) (_ : _ ≤ _) (_ : _ = none) => ?_; conv => whnf)
      refine ⟨rfl, HO.put1 hi4 z.1 (by dsimp only; omega) (h.m.getD z.1 0 ||| x.getD z.1 0) ((bitI_u8 _ _).1) (.inr hB4) ?_⟩
      intro H6 hk6 ho6
      dsimp only at ho6
      rw [mixM_succ] at ho6
      (conv => whnf); repeat first | (refine drw (by decide +kernel) ?_; conv => whnf) | (refine fun (_ : Nat) (_ : _ ≤ _) (_ : _ = none) => ?_; conv => whnf)
      exact ⟨(z.1 + 1, H6), ⟨by dsimp only; omega, hi2.mono (fun o ho => hk6 r1 o n13 ho), hi3.mono (fun o ho => hk6 r2 o n23 ho), ho6⟩, by dsimp only; omega, ⟨congrArg (fun n => some (SV.v (.int .i64 n))) nx, rfl, rfl, rfl, rfl, rfl, trivial⟩, ⟨[], rfl⟩, rfl⟩
    · have hz : z.1 = 16 := by omega
      (conv => whnf); repeat first | (refine drw (by decide +kernel) ?_; conv => whnf) | (refine fun (_ : Nat) (_ : _ ≤ _) (_ : _ = none) => ?_; conv => whnf)
      refine ⟨_, hi2.part 16 8 (by omega), ?_⟩
      (conv => whnf); repeat first | (refine drw (by decide +kernel) ?_; conv => whnf) | (refine fun (_ : Nat) (_ : _ ≤ _) (_ : _ = none) => ?_; conv => whnf)
      refine VLoop.ok (X := Nat × HV) (fun y => [(43, .v (.int .i64 y.1)), (42, .v (.agg ⟨bytesV ((h.m.drop 16).take 8)⟩)), (2, .p 0 rg 0), (3, .v (.pointer (some ⟨r1, 0, none⟩))), (5, .v (.pointer (some ⟨r2, 0, none⟩))), (7, .v (.pointer (some ⟨r3, 0, none⟩)))]) (fun y => y.2)
        (fun y => y.1 ≤ 8 ∧ HO y.2 r1 h ∧ HO y.2 r2 ⟨h.no, x⟩ ∧ HO y.2 r3 ⟨h.no, mixM h.m x (16 + y.1)⟩) (fun y => 8 - y.1) tabH (by kernel_rfl) rfl (fun _ => rfl) (0, z.2) ⟨Nat.zero_le _, hi2, hi3, by rw [hz] at hi4; exact hi4⟩ ⟨rfl, rfl, rfl, rfl, rfl, rfl, trivial⟩ rfl ?_
      rintro y ⟨hj1, hj2, hj3, hj4⟩
      have hlm := mixM_len h.m x (16 + y.1)
      (conv => whnf); repeat first | (refine drw (by decide +kernel) ?_; conv => whnf) | (refine fun (_ : Nat) (_ : _ ≤ _) (_ : _ = none) => ?_; conv => whnf)
      refine vif_dec (fun h1 => ?_) (fun h1 => ?_)
      · have hi0 : y.1 < 8 := by omega
        have nx : IntKind.wrap .i64 ((y.1 : Int) + 1) = ((y.1 + 1 : Nat) : Int) := by rw [wrap64 (by omega)]; rfl
        (conv => whnf); repeat first | (refine drw (by decide +kernel) ?_; conv => whnf) | (refine fun (_ : Nat) (_ : _ ≤ _) (_ : _ = none) => ?_; conv => whnf)
        refine ⟨⟨by omega, by omega⟩, ?_⟩
        (conv => whnf); repeat first | (refine drw (by decide +kernel) ?_; conv => whnf) | (refine fun (_ : Nat) (_ : _ ≤ _) (_ : _ = none) => ?_; conv => whnf)
        refine ⟨.int .u8 (h.m.getD (16 + y.1) 0).toNat, ?_, ?_⟩
        · exact idx_bytes _ y.1 (by simp; omega) (by simp [List.getD, List.getElem?_take, hi0])
        (conv => whnf); repeat first | (refine drw (by decide +kernel) ?_; conv => whnf) | (refine fun (_ : Nat) (_ : _ ≤ _) (_ : _ = none) => ?_; conv => whnf)
        refine ⟨⟨by omega, by omega⟩, ?_⟩
        (conv => whnf); repeat first | (refine drw (by decide +kernel) ?_; conv => whnf) | (refine fun (_ : Nat) (_ : _ ≤ _) (_ : _ = none) => ?_; conv => whnf)
        refine ⟨_, hj3.cell'' 16 y.1 (by dsimp only; omega), ?_⟩
        (conv => whnf); repeat first | (refine drw (by decide +kernel) ?_; conv => whnf) | (refine fun (_ : Nat) (_ : _ ≤ _) (_ : _ = none) => ?_; conv => whnf)
        refine ⟨⟨by omega, by omega⟩, ?_⟩
        (conv => whnf); repeat first | (refine drw (by decide +kernel) ?_; conv => whnf) | (refine fun (_ : Nat) (_ : _ ≤ _) (_ : _ = none) => ?_; conv => whnf)
        refine ⟨rfl, HO.put2 hj4 16 y.1 (by dsimp only; omega) (h.m.getD (16 + y.1) 0 ||| x.getD (16 + y.1) 0) ((bitI_u8 _ _).1) (.inr hB4) ?_⟩
        intro H6 hk6 ho6
        dsimp only at ho6
        rw [mixM_succ] at ho6
        (conv => whnf); repeat first | (refine drw (by decide +kernel) ?_; conv => whnf) | (refine fun (_ : Nat) (_ : _ ≤ _) (_ : _ = none) => ?_; conv => whnf)
        exact ⟨(y.1 + 1, H6), ⟨by dsimp only; omega, hj2.mono (fun o ho => hk6 r1 o n13 ho), hj3.mono (fun o ho => hk6 r2 o n23 ho), ho6⟩, by dsimp only; omega, ⟨congrArg (fun n => some (SV.v (.int .i64 n))) nx, rfl, rfl, rfl, rfl, rfl, trivial⟩, ⟨[], rfl⟩, rfl⟩
      · have hy : y.1 = 8 := by omega
        rw [hy] at hj4
        (conv => whnf); repeat first | (refine drw (by decide +kernel) ?_; conv => whnf) | (refine fun (_ : Nat) (_ : _ ≤ _) (_ : _ = none) => ?_; conv => whnf)
        have hbk : BS y.2 (some ⟨r1, 0 + 1, none⟩) 16 16 h.blk := hj2.bs 0 16 16 (by omega) (by omega)
        have hsl : BS y.2 (some ⟨r1, 0 + 17, none⟩) 8 8 h.slt := by
          have := hj2.bs 16 8 8 (by omega) (by omega)
          rw [List.take_of_length_le (by simp; omega)] at this
          exact this
        (refine VCall.pure_ (by kernel_rfl) (fun w hs => bcount_ok _ w hs hbk (by omega)) ?_); (conv => whnf); repeat first | (refine drw (by decide +kernel) ?_; conv => whnf) | (refine fun (_ : Nat) (_ : _ ≤ _) (_ : _ = none) => ?_; conv => whnf)
        (refine VCall.pure_ (by kernel_rfl) (fun w hs => bcount_ok _ w hs hbk (by omega)) ?_); (conv => whnf); repeat first | (refine drw (by decide +kernel) ?_; conv => whnf) | (refine fun (_ : Nat) (_ : _ ≤ _) (_ : _ = none) => ?_; conv => whnf)
        have hmix := mixM_len h.m x 24
        have hmx : 0 + 16 ≤ (mixM h.m x (16 + 8)).length := by rw [mixM_len]; decide
        have hmx2 : 16 + 8 ≤ (mixM h.m x (16 + 8)).length := by rw [mixM_len]; decide
        have c1 : decide ((cntB h.blk (mostB h.blk g.gr) : Int) = (cntB h.blk (mostB h.blk 128) : Int)) = decide (cntB h.blk (mostB h.blk g.gr) = cntB h.blk (mostB h.blk 128)) := decide_eq_decide.2 (by omega)
        have c2 : decide ((cntB h.slt (mostB h.slt g.inn) : Int) = (cntB h.slt (mostB h.slt 64) : Int)) = decide (cntB h.slt (mostB h.slt g.inn) = cntB h.slt (mostB h.slt 64)) := decide_eq_decide.2 (by omega)
        have fin := rightB_of hf hm rfl rfl
        rw [hx] at fin
        rw [c1]
        have la : ((h.m.drop 0).take 16).length = 16 := by simp; omega
        have lb : ((h.m.drop 16).take 8).length = 8 := by simp; omega
        have lc : (((mixM h.m x (16 + 8)).drop 0).take 16).length = 16 := by simp; omega
        have ld : (((mixM h.m x (16 + 8)).drop 16).take 8).length = 8 := by simp; omega
        have ea : (mixM h.m x 24).drop 16 = ((mixM h.m x (16 + 8)).drop 16).take 8 := (List.take_of_length_le (by simp; omega)).symm
        have eb : h.m.drop 16 = (h.m.drop 16).take 8 := (List.take_of_length_le (by simp; omega)).symm
        rw [ea] at fin
        rw [eb] at fin
        refine vif_intro (fun h1 => ?_) (fun h1 => ?_)
        · (conv => whnf); repeat first | (refine drw (by decide +kernel) ?_; conv => whnf) | (refine fun (_ : Nat) (_ : _ ≤ _) (_ : _ = none) => ?_; conv => whnf)
          (refine VCall.pure_ (by kernel_rfl) (fun w hs => bcount_ok _ w hs hsl (by omega)) ?_); (conv => whnf); repeat first | (refine drw (by decide +kernel) ?_; conv => whnf) | (refine fun (_ : Nat) (_ : _ ≤ _) (_ : _ = none) => ?_; conv => whnf)
          (refine VCall.pure_ (by kernel_rfl) (fun w hs => bcount_ok _ w hs hsl (by omega)) ?_); (conv => whnf); repeat first | (refine drw (by decide +kernel) ?_; conv => whnf) | (refine fun (_ : Nat) (_ : _ ≤ _) (_ : _ = none) => ?_; conv => whnf)
          refine ⟨_, hj4.part 0 16 hmx, ?_⟩
          (conv => whnf); repeat first | (refine drw (by decide +kernel) ?_; conv => whnf) | (refine fun (_ : Nat) (_ : _ ≤ _) (_ : _ = none) => ?_; conv => whnf)
          refine ⟨_, hj2.part 0 16 (by omega), ?_⟩
          (conv => whnf); repeat first | (refine drw (by decide +kernel) ?_; conv => whnf) | (refine fun (_ : Nat) (_ : _ ≤ _) (_ : _ = none) => ?_; conv => whnf)
          refine ⟨eq_guard (by kernel_rfl), _, b16_eq _ _ lc la, ?_⟩
          (conv => whnf); repeat first | (refine drw (by decide +kernel) ?_; conv => whnf) | (refine fun (_ : Nat) (_ : _ ≤ _) (_ : _ = none) => ?_; conv => whnf)
          refine vif_dec (fun h2 => ?_) (fun h2 => ?_)
          · (conv => whnf); repeat first | (refine drw (by decide +kernel) ?_; conv => whnf) | (refine fun (_ : Nat) (_ : _ ≤ _) (_ : _ = none) => ?_; conv => whnf)
            refine ⟨_, hj4.part 16 8 hmx2, ?_⟩
            (conv => whnf); repeat first | (refine drw (by decide +kernel) ?_; conv => whnf) | (refine fun (_ : Nat) (_ : _ ≤ _) (_ : _ = none) => ?_; conv => whnf)
            refine ⟨_, hj2.part 16 8 (by omega), ?_⟩
            (conv => whnf); repeat first | (refine drw (by decide +kernel) ?_; conv => whnf) | (refine fun (_ : Nat) (_ : _ ≤ _) (_ : _ = none) => ?_; conv => whnf)
            refine ⟨eq_guard (by kernel_rfl), _, b8_eq _ _ ld lb, ?_⟩
            (conv => whnf); repeat first | (refine drw (by decide +kernel) ?_; conv => whnf) | (refine fun (_ : Nat) (_ : _ ≤ _) (_ : _ = none) => ?_; conv => whnf)
            refine vif_dec (fun h3 => ?_) (fun h3 => ?_)
            · (conv => whnf); repeat first | (refine drw (by decide +kernel) ?_; conv => whnf) | (refine fun (_ : Nat) (_ : _ ≤ _) (_ : _ = none) => ?_; conv => whnf)
              have h2' : (mixM h.m x 24).take 16 = h.m.take 16 := h2
              have h3' : ((mixM h.m x (16 + 8)).drop 16).take 8 = (h.m.drop 16).take 8 := h3
              rw [fin, decide_eq_true h2', decide_eq_true h3', h1]
              first | (rw [c2]; rfl) | rfl
            · (conv => whnf); repeat first | (refine drw (by decide +kernel) ?_; conv => whnf) | (refine fun (_ : Nat) (_ : _ ≤ _) (_ : _ = none) => ?_; conv => whnf)
              have h3' : ¬ ((mixM h.m x (16 + 8)).drop 16).take 8 = (h.m.drop 16).take 8 := h3
              rw [fin, decide_eq_false h3', Bool.and_false]
              rfl
          · (conv => whnf); repeat first | (refine drw (by decide +kernel) ?_; conv => whnf) | (refine fun (_ : Nat) (_ : _ ≤ _) (_ : _ = none) => ?_; conv => whnf)
            have h2' : ¬ (mixM h.m x 24).take 16 = h.m.take 16 := h2
            rw [fin, decide_eq_false h2']
            rfl
        · (conv => whnf); repeat first | (refine drw (by decide +kernel) ?_; conv => whnf) | (refine fun (_ : Nat) (_ : _ ≤ _) (_ : _ = none) => ?_; conv => whnf)
          refine ⟨_, hj4.part 0 16 hmx, ?_⟩
          (conv => whnf); repeat first | (refine drw (by decide +kernel) ?_; conv => whnf) | (refine fun (_ : Nat) (_ : _ ≤ _) (_ : _ = none) => ?_; conv => whnf)
          refine ⟨_, hj2.part 0 16 (by omega), ?_⟩
          (conv => whnf); repeat first | (refine drw (by decide +kernel) ?_; conv => whnf) | (refine fun (_ : Nat) (_ : _ ≤ _) (_ : _ = none) => ?_; conv => whnf)
          refine ⟨eq_guard (by kernel_rfl), _, b16_eq _ _ lc la, ?_⟩
          (conv => whnf); repeat first | (refine drw (by decide +kernel) ?_; conv => whnf) | (refine fun (_ : Nat) (_ : _ ≤ _) (_ : _ = none) => ?_; conv => whnf)
          refine vif_dec (fun h2 => ?_) (fun h2 => ?_)
          · (conv => whnf); repeat first | (refine drw (by decide +kernel) ?_; conv => whnf) | (refine fun (_ : Nat) (_ : _ ≤ _) (_ : _ = none) => ?_; conv => whnf)
            refine ⟨_, hj4.part 16 8 hmx2, ?_⟩
            (conv => whnf); repeat first | (refine drw (by decide +kernel) ?_; conv => whnf) | (refine fun (_ : Nat) (_ : _ ≤ _) (_ : _ = none) => ?_; conv => whnf)
            refine ⟨_, hj2.part 16 8 (by omega), ?_⟩
            (conv => whnf); repeat first | (refine drw (by decide +kernel) ?_; conv => whnf) | (refine fun (_ : Nat) (_ : _ ≤ _) (_ : _ = none) => ?_; conv => whnf)
            refine ⟨eq_guard (by kernel_rfl), _, b8_eq _ _ ld lb, ?_⟩
            (conv => whnf); repeat first | (refine drw (by decide +kernel) ?_; conv => whnf) | (refine fun (_ : Nat) (_ : _ ≤ _) (_ : _ = none) => ?_; conv => whnf)
            refine vif_dec (fun h3 => ?_) (fun h3 => ?_)
            · (conv => whnf); repeat first | (refine drw (by decide +kernel) ?_; conv => whnf) | (refine fun (_ : Nat) (_ : _ ≤ _) (_ : _ = none) => ?_; conv => whnf)
              have h2' : (mixM h.m x 24).take 16 = h.m.take 16 := h2
              have h3' : ((mixM h.m x (16 + 8)).drop 16).take 8 = (h.m.drop 16).take 8 := h3
              rw [fin, decide_eq_true h2', decide_eq_true h3', h1]
              first | (rw [c2]; rfl) | rfl
            · (conv => whnf); repeat first | (refine drw (by decide +kernel) ?_; conv => whnf) | (refine fun (_ : Nat) (_ : _ ≤ _) (_ : _ = none) => ?_; conv => whnf)
              have h3' : ¬ ((mixM h.m x (16 + 8)).drop 16).take 8 = (h.m.drop 16).take 8 := h3
              rw [fin, decide_eq_false h3', Bool.and_false]
              rfl
          · (conv => whnf); repeat first | (refine drw (by decide +kernel) ?_; conv => whnf) | (refine fun (_ : Nat) (_ : _ ≤ _) (_ : _ = none) => ?_; conv => whnf)
            have h2' : ¬ (mixM h.m x 24).take 16 = h.m.take 16 := h2
            rw [fin, decide_eq_false h2']
            rfl
  · rw [if_neg hf]
    (conv => whnf); repeat first | (refine drw (by decide +kernel) ?_; conv => whnf) | (refine fun (_ : Nat) (_ : _ ≤ _) (_ : _ = none) => ?_; conv => whnf)
    intro r2 H2 hB2 hN2 hE2
    (conv => whnf); repeat first | (refine drw (by decide +kernel) ?_; conv => whnf) | (refine fun (_ : Nat) (_ : _ ≤ _) (_ : _ = none) => ?_; conv => whnf)
    refine ⟨rfl, HO.put (h := hZ) (h2 := hZ) ⟨_, hE2.new⟩ rfl (.inr hB2) ?_⟩
    intro H3 hk3 ho3
    (conv => whnf); repeat first | (refine drw (by decide +kernel) ?_; conv => whnf) | (refine fun (_ : Nat) (_ : _ ≤ _) (_ : _ = none) => ?_; conv => whnf)
    simp [bV, rightB, hf]
end Go.Proofs.YtlkgjffffeohdaaGreat
