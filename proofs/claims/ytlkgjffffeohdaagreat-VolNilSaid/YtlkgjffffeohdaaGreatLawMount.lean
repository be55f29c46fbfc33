/- Plain laws: a new volume is mounted. -/
import Derived.Test.YtlkgjffffeohdaaGreatVol6
set_option linter.unusedVariables false
set_option linter.unusedSimpArgs false
namespace Go.Proofs.YtlkgjffffeohdaaGreat
open Go Go.Eng Go.Proofs

theorem take_of_part (bs : List UInt8) (n : Nat) : bs.take n = (bs.drop 0).take n := by rw [List.drop_zero]

theorem sup_parts (s : Sp) : (supB s).take 4 = [76, 86, 69, 69] ∧ ((supB s).drop 4).take 8 = leB 8 s.gen.toNat ∧ ((supB s).drop 12).take 2 = leB 2 s.g.gr.toNat ∧ ((supB s).drop 14).take 2 = leB 2 s.g.inn.toNat ∧
    ((supB s).drop 16).take 2 = leB 2 s.g.gs.toNat ∧ ((supB s).drop 18).take 234 = List.replicate 234 0 ∧ (supB s).drop 252 = leB 4 (sumB ((sup4 s).take 252)).toNat ∧ (supB s).take 252 = (sup4 s).take 252 := by
  have l0 := sup0_len
  have l1 := sup1_len s
  have l2 := sup2_len s
  have l3 := sup3_len s
  have l4 := sup4_len s
  have lb := supB_len s
  have k8 : ∀ v, (leB 8 v).length = 8 := leB_length 8
  have k2 : ∀ v, (leB 2 v).length = 2 := leB_length 2
  have k4 : ∀ v, (leB 4 v).length = 4 := leB_length 4
  have km : ([76, 86, 69, 69] : List UInt8).length = 4 := rfl
  have z : (List.replicate 256 (0 : UInt8)).length = 256 := List.length_replicate ..
  have b4 : ∀ o n, o + n ≤ 252 → ((supB s).drop o).take n = ((sup4 s).drop o).take n := fun o n h => part_before h (by omega)
  have b3 : ∀ o n, o + n ≤ 16 → ((sup4 s).drop o).take n = ((sup3 s).drop o).take n := fun o n h => part_before h (by omega)
  have b2 : ∀ o n, o + n ≤ 14 → ((sup3 s).drop o).take n = ((sup2 s).drop o).take n := fun o n h => part_before h (by omega)
  have b1 : ∀ o n, o + n ≤ 12 → ((sup2 s).drop o).take n = ((sup1 s).drop o).take n := fun o n h => part_before h (by omega)
  have b0 : ∀ o n, o + n ≤ 4 → ((sup1 s).drop o).take n = (sup0.drop o).take n := fun o n h => part_before h (by omega)
  have a0 := part_at (bs := List.replicate 256 (0 : UInt8)) (off := 0) (xs := [76, 86, 69, 69]) (by omega)
  have a1 := part_at (bs := sup0) (off := 4) (xs := leB 8 s.gen.toNat) (by omega)
  have a2 := part_at (bs := sup1 s) (off := 12) (xs := leB 2 s.g.gr.toNat) (by omega)
  have a3 := part_at (bs := sup2 s) (off := 14) (xs := leB 2 s.g.inn.toNat) (by omega)
  have a4 := part_at (bs := sup3 s) (off := 16) (xs := leB 2 s.g.gs.toNat) (by omega)
  have a5 := part_at (bs := sup4 s) (off := 252) (xs := leB 4 (sumB ((sup4 s).take 252)).toNat) (by omega)
  rw [k8] at a1
  rw [k2] at a2 a3 a4
  rw [k4] at a5
  refine ⟨?_, ?_, ?_, ?_, ?_, ?_, ?_, ?_⟩
  · rw [take_of_part, b4 0 4 (by omega), b3 0 4 (by omega), b2 0 4 (by omega), b1 0 4 (by omega), b0 0 4 (by omega)]; exact a0
  · rw [b4 4 8 (by omega), b3 4 8 (by omega), b2 4 8 (by omega), b1 4 8 (by omega)]; exact a1
  · rw [b4 12 2 (by omega), b3 12 2 (by omega), b2 12 2 (by omega)]; exact a2
  · rw [b4 14 2 (by omega), b3 14 2 (by omega)]; exact a3
  · rw [b4 16 2 (by omega)]; exact a4
  · rw [b4 18 234 (by omega)]
    unfold sup4
    rw [part_after (by rw [k2]; omega) (by rw [k2]; omega)]
    unfold sup3
    rw [part_after (by rw [k2]; omega) (by rw [k2]; omega)]
    unfold sup2
    rw [part_after (by rw [k2]; omega) (by rw [k2]; omega)]
    unfold sup1
    rw [part_after (by rw [k8]; omega) (by rw [k8]; omega)]
    unfold sup0
    rw [part_after (by rw [km]; omega) (by rw [km, z]; omega), List.drop_replicate, List.take_replicate]
    rfl
  · have : ((supB s).drop 252).take 4 = (supB s).drop 252 := List.take_of_length_le (by rw [List.length_drop]; omega)
    rw [← this]; exact a5
  · rw [take_of_part, b4 0 252 (by omega), List.drop_zero]

theorem getS_put {s : Sp} (h : s.ok) : getS (supB s) = (s, 0) := by
  obtain ⟨p1, p2, p3, p4, p5, p6, p7, p8⟩ := sup_parts s
  have hk := (gok_iff s.g).1 h.2.2
  have hg1 := h.1
  have hg2 := h.2.1
  have hso : supOf (supB s) = s := by
    unfold supOf
    rw [p2, p3, p4, p5, leN_leB 8 _ (by omega), leN_leB 2 _ (by omega), leN_leB 2 _ (by omega), leN_leB 2 _ (by omega)]
    obtain ⟨gen, gr, inn, gs⟩ := s
    have hg1 : 1 ≤ gen := hg1
    have hg2 : gen ≤ 4611686018427387904 := hg2
    dsimp only at hk
    simp only [Sp.mk.injEq, G.mk.injEq]
    refine ⟨by rw [wrap64 (by omega)]; omega, by omega, by omega, by omega⟩
  have hsl := (sumB ((sup4 s).take 252)).toNat_lt
  unfold getS
  rw [if_pos (supB_len s), if_pos p1, p7, p8, leN_leB 4 _ (by omega), if_pos rfl, hso, if_pos h, p6, if_pos (by rw [List.all_eq_true]; intro x hx; rw [List.eq_of_mem_replicate hx]; rfl)]

theorem fmt_last (d : Dk) (g : G) (b : Nat) : (fmtD d g).last b = if b = 1 then supB ⟨1, g⟩ else if b = 0 then zeroB else match metaB g b with | some x => x | none => d.last b := rfl

theorem getS_zero : getS zeroB = (sZ, 8) := by
  unfold getS
  rw [if_pos (by unfold zeroB; exact List.length_replicate ..), if_neg (by decide)]

theorem mountS_fmt {d : Dk} {g : G} (hg : g.ok) (hn : g.size ≤ d.n) : mountS (fmtD d g) = ⟨1, g⟩ := by
  have hk := (gok_iff g).1 hg
  have hsz : g.size = 2 + g.gs * g.gr := by unfold G.size; rw [if_pos hg]
  have hpos : 0 ≤ g.gs * g.gr := Int.mul_nonneg (by omega) (by omega)
  have hn2 : 1 < (fmtD d g).n := by show 1 < d.n; omega
  have e0 : (fmtD d g).last 0 = zeroB := rfl
  have e1 : blk1 (fmtD d g) = supB ⟨1, g⟩ := by unfold blk1; rw [if_pos hn2]; rfl
  unfold mountS chooseS
  rw [e0, e1]
  have hp0 : pick1 (fmtD d g).n 0 zeroB sZ = sZ := by unfold pick1; rw [getS_zero, if_neg (by rintro ⟨h, _⟩; cases h)]
  rw [hp0]
  unfold pick1
  rw [getS_put (s := ⟨1, g⟩) ⟨by show (1 : Int) ≤ 1; decide, by show (1 : Int) ≤ _; decide, hg⟩, if_pos ⟨rfl, rfl, hn, by show (1 : Int) > 0; decide⟩]

theorem head_fmt {d : Dk} {g : G} (hg : g.ok) (hn : g.size ≤ d.n) {x : Int} {ws : List Wt} {k : Nat} (hk : (k : Int) < g.gs) : Vs.head ⟨⟨1, g⟩, St.new (fmtD d g), ws, x⟩ k = (⟨k, freshM g k⟩, 0) := by
  have hq := (gok_iff g).1 hg
  unfold Vs.head
  dsimp only
  rw [if_pos ⟨Int.natCast_nonneg k, hk⟩]
  have hb : (2 + (k : Int) * g.gr).toNat = 2 + k * g.gr.toNat := by
    have : ((k * g.gr.toNat : Nat) : Int) = k * g.gr := by rw [Int.natCast_mul, Int.toNat_of_nonneg (by omega)]
    omega
  show getH g ((fmtD d g).last _) = _
  rw [hb, fmt_last, if_neg (by omega), if_neg (by omega)]
  have hm := metaB_at hg (i := 0) hk (by omega)
  rw [Nat.add_zero] at hm
  rw [hm]
  show getH g (grpB g k 0) = _
  unfold grpB
  rw [if_pos rfl]
  exact getH_put (freshM_len g k) (fresh_right hg (Int.natCast_nonneg k) hk)

theorem heads_fmt {d : Dk} {g : G} (hg : g.ok) (hn : g.size ≤ d.n) {x : Int} {ws : List Wt} : ∀ n : Nat, (n : Int) ≤ g.gs → headsOk ⟨⟨1, g⟩, St.new (fmtD d g), ws, x⟩ n = true
  | 0, _ => rfl
  | n + 1, h => by
    unfold headsOk
    rw [heads_fmt hg hn n (by omega), head_fmt hg hn (by omega)]
    simp

theorem read_zero : ∀ p : Fin 4, readN zeroB (p.val : Int) = (nZ, 0) := by decide +kernel
theorem read_root : ∀ p : Fin 4, readN rootB (p.val : Int) = (if p.val = 1 then rootN else nZ, 0) := by decide +kernel

theorem inode_fmt {d : Dk} {g : G} (hg : g.ok) (hn : g.size ≤ d.n) {x : Int} {ws : List Wt} {n : Nat} (hl : (n : Int) < g.slots) : Vs.inode ⟨⟨1, g⟩, St.new (fmtD d g), ws, x⟩ n = (if n = 1 then rootN else nZ, 0) := by
  have hq := (gok_iff g).1 hg
  have hsl : g.slots = g.gs * g.inn := by unfold G.slots; rw [if_pos hg]
  unfold Vs.inode
  dsimp only
  rw [if_pos ⟨Int.natCast_nonneg n, hl⟩]
  obtain ⟨inn, hi⟩ : ∃ inn : Nat, g.inn = inn := ⟨g.inn.toNat, by omega⟩
  obtain ⟨gr, hgr⟩ : ∃ gr : Nat, g.gr = gr := ⟨g.gr.toNat, by omega⟩
  obtain ⟨gs, hgs⟩ : ∃ gs : Nat, g.gs = gs := ⟨g.gs.toNat, by omega⟩
  rw [hi] at hq
  have hk : n / inn < gs := by
    rw [hsl, hi, hgs] at hl
    refine (Nat.div_lt_iff_lt_mul (by omega)).2 ?_
    exact_mod_cast hl
  have hr := Nat.mod_lt n (by omega : 0 < inn)
  have hb : g.pblk n = 2 + n / inn * g.gr.toNat + (1 + n % inn / 4) := by
    unfold G.pblk
    rw [hi, hgr]
    have : (2 + (n : Int) / (inn : Int) * (gr : Int) + 1 + (n : Int) % (inn : Int) / 4) = ((2 + n / inn * gr + (1 + n % inn / 4) : Nat) : Int) := by push_cast; omega
    rw [this]; rfl
  have hp : (n : Int) % g.inn % 4 = ((n % inn % 4 : Nat) : Int) := by rw [hi]; push_cast; rfl
  have h4 := Nat.mod_lt (n % inn) (by decide : 0 < 4)
  have hdiv : (n % inn / 4 : Nat) + 1 ≤ inn / 4 := by
    have : inn % 4 = 0 := by have := hq.2.2.2.2.1; omega
    omega
  show readN ((fmtD d g).last _) _ = _
  rw [hb, hp, fmt_last, if_neg (by omega), if_neg (by omega), metaB_at hg (by omega) (by rw [hi]; omega)]
  show readN (grpB g (n / inn) (1 + n % inn / 4)) _ = _
  unfold grpB
  rw [if_neg (by omega)]
  by_cases hc : n / inn = 0 ∧ 1 + n % inn / 4 = 1
  · rw [if_pos hc]
    have hlt : n < inn := (Nat.div_eq_zero_iff_lt (by omega)).1 hc.1
    have e : n % inn = n := Nat.mod_eq_of_lt hlt
    rw [e] at hc ⊢
    have hn4 : n < 4 := by omega
    rw [Nat.mod_eq_of_lt hn4]
    exact read_root ⟨n, hn4⟩
  · rw [if_neg hc]
    have hne : n ≠ 1 := by
      rintro rfl
      exact hc ⟨Nat.div_eq_of_lt (by omega), by rw [Nat.mod_eq_of_lt (by omega)]⟩
    rw [if_neg hne]
    exact read_zero ⟨n % inn % 4, h4⟩

theorem maxId_fmt {d : Dk} {g : G} (hg : g.ok) (hn : g.size ≤ d.n) {x : Int} {ws : List Wt} : ∀ n : Nat, (n : Int) ≤ g.slots → maxId ⟨⟨1, g⟩, St.new (fmtD d g), ws, x⟩ n = if 2 ≤ n then 1 else 0
  | 0, _ => rfl
  | n + 1, h => by
    unfold maxId
    rw [maxId_fmt hg hn n (by omega), inode_fmt hg hn (by omega)]
    by_cases e : n = 1
    · subst e; rfl
    · rw [if_neg e]
      by_cases e2 : 2 ≤ n
      · rw [if_pos e2, if_pos (by omega)]; rfl
      · rw [if_neg e2, if_neg (by omega)]; rfl

theorem mount_fmt {d : Dk} {g : G} (hg : g.ok) (hn : g.size ≤ d.n) : mountE (fmtD d g) = 0 ∧ mountV (fmtD d g) = ⟨⟨1, g⟩, St.new (fmtD d g), [], 2⟩ := by
  have hq := (gok_iff g).1 hg
  have hs := mountS_fmt hg hn
  have hm : mount0 (fmtD d g) = ⟨⟨1, g⟩, St.new (fmtD d g), [], 0⟩ := by unfold mount0; rw [hs]
  have hsl : g.slots = g.gs * g.inn := by unfold G.slots; rw [if_pos hg]
  have hsl2 : 4 ≤ g.slots := by
    rw [hsl]
    exact Int.le_trans (by decide : (4 : Int) ≤ 1 * 4) (Int.mul_le_mul (by omega) (by omega) (by decide) (by omega))
  constructor
  · unfold mountE
    rw [hs, if_neg (by intro e; have := congrArg Sp.gen e; exact absurd (show (1 : Int) = 0 from this) (by decide)), hm, if_pos]
    refine ⟨heads_fmt hg hn _ (by dsimp only; omega), ?_⟩
    unfold rootOk
    have := inode_fmt (d := d) (x := 0) (ws := []) hg hn (n := 1) (by omega)
    rw [show ((1 : Nat) : Int) = 1 from rfl] at this
    rw [this]; rfl
  · unfold mountV
    rw [hs, hm, maxId_fmt hg hn _ (by dsimp only; omega), if_pos (by dsimp only; omega)]
    rfl
end Go.Proofs.YtlkgjffffeohdaaGreat
