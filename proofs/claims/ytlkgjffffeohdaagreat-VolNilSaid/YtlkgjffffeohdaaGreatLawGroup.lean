/- Plain laws of headers. -/
import Derived.Test.YtlkgjffffeohdaaGreatPatch
import Derived.Test.YtlkgjffffeohdaaGreatGroup3
import Derived.Test.YtlkgjffffeohdaaGreatInode2
set_option linter.unusedVariables false
set_option linter.unusedSimpArgs false
namespace Go.Proofs.YtlkgjffffeohdaaGreat
open Go Go.Eng Go.Proofs

/-! ### parts of bytes -/
theorem part_before {bs xs : List UInt8} {off o n : Nat} (h : o + n ≤ off) (hl : off ≤ bs.length) : ((splice bs off xs).drop o).take n = (bs.drop o).take n := by
  unfold splice
  rw [List.append_assoc, List.drop_append_of_le_length (by rw [List.length_take]; omega), List.take_append_of_le_length (by rw [List.length_drop, List.length_take]; omega), List.drop_take, List.take_take, Nat.min_eq_left (by omega)]

theorem part_after {bs xs : List UInt8} {off o : Nat} (h : off + xs.length ≤ o) (hl : off + xs.length ≤ bs.length) : (splice bs off xs).drop o = bs.drop o := by
  unfold splice
  have e : (bs.take off ++ xs).length = off + xs.length := by rw [List.length_append, List.length_take]; omega
  rw [List.drop_append, List.drop_of_length_le (by omega), List.nil_append, e, List.drop_drop]
  congr 1
  omega

theorem part_at {bs xs : List UInt8} {off : Nat} (hl : off ≤ bs.length) : ((splice bs off xs).drop off).take xs.length = xs := by
  unfold splice
  rw [List.append_assoc, List.drop_append, List.drop_of_length_le (by rw [List.length_take]; omega), List.nil_append, List.length_take, Nat.min_eq_left hl, Nat.sub_self, List.drop_zero, List.take_left]

theorem leN_leB : ∀ (n v : Nat), v < 256 ^ n → leN (leB n v) = v
  | 0, v, h => by simp at h; subst h; rfl
  | n + 1, v, h => by
    rw [leB, leN, leN_leB n (v / 256) (by rw [Nat.pow_succ] at h; exact Nat.div_lt_of_lt_mul (by rw [Nat.mul_comm]; exact h)), UInt8.toNat_ofNat']
    omega

/-! ### a header's bytes -/
theorem hdB_parts (g : G) (h : Hd) (hm : h.m.length = 24) : ((hdB g h).drop 4).take 2 = leB 2 h.no.toNat ∧ ((hdB g h).drop 16).take 24 = h.m ∧ (hdB g h).drop 40 = List.replicate 216 0 := by
  have l0 : ([76, 71, 82, 80] : List UInt8).length = 4 := rfl
  have l1 := putB3_len g h 0 (by omega)
  have l2 := putB3_len g h 1 (by omega)
  have l3 := putB3_len g h 2 (by omega)
  have l4 := putB3_len g h 3 (by omega)
  have hb : h.blk.length = 16 := by simp [Hd.blk, hm]
  have hs : h.slt.length = 8 := by simp [Hd.slt, hm]
  have hbs : h.blk ++ h.slt = h.m := List.take_append_drop 16 h.m
  have l5 : (splice (putB3 g h 3) 16 h.blk).length = 256 := by rw [splice_length (by omega)]; exact l4
  refine ⟨?_, ?_, ?_⟩
  · unfold hdB
    rw [part_before (by omega) (by omega), part_before (by omega) (by omega)]
    show ((splice (putB3 g h 2) (4 + 2 * 2) _).drop 4).take 2 = _
    rw [part_before (by omega) (by omega)]
    show ((splice (putB3 g h 1) (4 + 2 * 1) _).drop 4).take 2 = _
    rw [part_before (by omega) (by omega)]
    show ((splice (putB3 g h 0) (4 + 2 * 0) (leB 2 h.no.toNat)).drop 4).take 2 = _
    have := part_at (bs := putB3 g h 0) (off := 4) (xs := leB 2 h.no.toNat) (by omega)
    rw [leB_length] at this
    exact this
  · unfold hdB
    have e1 := part_at (bs := splice (putB3 g h 3) 16 h.blk) (off := 32) (xs := h.slt) (by omega)
    have e2 := part_at (bs := putB3 g h 3) (off := 16) (xs := h.blk) (by omega)
    rw [hs] at e1
    rw [hb] at e2
    have e3 : ((splice (splice (putB3 g h 3) 16 h.blk) 32 h.slt).drop 16).take 16 = h.blk := by
      rw [part_before (by omega) (by omega)]; exact e2
    rw [← hbs, show (24 : Nat) = 16 + 8 from rfl, List.take_add, e3, List.drop_drop]
    congr 1
  · unfold hdB
    rw [part_after (by omega) (by omega), part_after (by omega) (by omega)]
    show (splice (putB3 g h 2) (4 + 2 * 2) (leB 2 _)).drop 40 = _
    rw [part_after (by rw [leB_length]; omega) (by rw [leB_length]; omega)]
    show (splice (putB3 g h 1) (4 + 2 * 1) (leB 2 _)).drop 40 = _
    rw [part_after (by rw [leB_length]; omega) (by rw [leB_length]; omega)]
    show (splice (putB3 g h 0) (4 + 2 * 0) (leB 2 _)).drop 40 = _
    rw [part_after (by rw [leB_length]; omega) (by rw [leB_length]; omega)]
    show (splice (List.replicate 256 0) 0 [76, 71, 82, 80]).drop 40 = _
    rw [part_after (by rw [l0]; omega) (by rw [l0, List.length_replicate]; omega), List.drop_replicate]

theorem hdOf_hdB (g : G) (h : Hd) (hm : h.m.length = 24) (hn : 0 ≤ h.no ∧ h.no < 65536) : hdOf (hdB g h) = h := by
  obtain ⟨e1, e2, e3⟩ := hdB_parts g h hm
  unfold hdOf
  rw [e1, e2, leN_leB 2 _ (by omega)]
  obtain ⟨no, m⟩ := h
  simp only [Hd.mk.injEq, and_true]
  have hn : 0 ≤ no ∧ no < 65536 := hn
  omega

theorem getH_put {g : G} {h : Hd} (hm : h.m.length = 24) (hr : rightB g h = true) : getH g (hdB g h) = (h, 0) := by
  have hk := rightB_ok hr
  have hg := (gok_iff g).1 hk.1
  have e := hdOf_hdB g h hm ⟨by omega, by omega⟩
  unfold getH
  rw [if_pos hk.1, if_pos (hdB_len g h hm), e, if_pos ⟨hr, rfl⟩]

theorem hd_over (g : G) (h h' : Hd) (hm : h.m.length = 24) (hm' : h'.m.length = 24) : splice (hdB g h) 0 ((hdB g h').take 64) = hdB g h' := by
  have l1 := hdB_len g h hm
  have l2 := hdB_len g h' hm'
  have e1 := (hdB_parts g h hm).2.2
  have e2 := (hdB_parts g h' hm').2.2
  unfold splice
  have e3 : (hdB g h).drop 64 = (hdB g h').drop 64 := by
    rw [show (64 : Nat) = 40 + 24 from rfl, ← List.drop_drop, ← List.drop_drop, e1, e2]
  rw [List.take_zero, List.nil_append, List.length_take, l2, Nat.zero_add, show min 64 256 = 64 from rfl, e3, List.take_append_drop]

/-! ### a new header -/
theorem testBit_or_mask (c : UInt8) {k j : Nat} (hk : k < 8) : (c ||| mask k).toNat.testBit j = (c.toNat.testBit j || decide (k = j)) := by
  rw [UInt8.toNat_or, Nat.testBit_or, testBit_mask hk]

theorem bitN_orB {bs : List UInt8} {k : Nat} (hk : k < 8 * bs.length) (i : Nat) : bitN (orB bs k) i = (bitN bs i || decide (i = k)) := by
  unfold bitN orB
  by_cases hq : i / 8 = k / 8
  · rw [hq, List.getD, List.getElem?_set_self (by omega), Option.getD_some, testBit_or_mask _ (Nat.mod_lt _ (by decide))]
    congr 1
    exact decide_eq_decide.2 (by omega)
  · rw [List.getD, List.getElem?_set_ne (fun h => hq h.symm)]
    have : decide (i = k) = false := decide_eq_false (fun h => hq (by rw [h]))
    rw [this, Bool.or_false]; rfl

theorem bitN_first : ∀ (t : Nat), t ≤ 192 → ∀ i, bitN (firstBits t) i = decide (i < t)
  | 0, _, i => by
    have : bitN (List.replicate 24 0) i = false := by
      unfold bitN
      rw [List.getD_eq_getElem?_getD, List.getElem?_replicate]
      split <;> simp
    exact this
  | t + 1, h, i => by
    rw [firstBits, bitN_orB (by rw [firstBits_len]; omega), bitN_first t (by omega) i, Bool.eq_iff_iff]
    simp
    omega

theorem cntB_more {bs : List UInt8} {a b : Nat} (hab : a ≤ b) (h : ∀ i, a ≤ i → i < b → bitN bs i = false) : cntB bs b = cntB bs a := by
  induction b with
  | zero => have : a = 0 := by omega
            subst this; rfl
  | succ b ih =>
    by_cases e : a = b + 1
    · subst e; rfl
    · rw [cntB, ih (by omega) (fun i h1 h2 => h i h1 (by omega)), h b (by omega) (by omega)]; rfl

theorem mixM_self {m : List UInt8} (hm : m.length = 24) : mixM m m 24 = m := by
  refine List.ext_getElem (by rw [mixM_len, hm]) fun i h1 h2 => ?_
  simp only [mixM, List.getElem_map, List.getElem_range]
  rw [if_pos (by omega), List.getD_eq_getElem?_getD, List.getElem?_eq_getElem h2]
  simp

theorem bitN_take {bs : List UInt8} {k i : Nat} (h : i < 8 * k) : bitN (bs.take k) i = bitN bs i := by
  unfold bitN
  rw [List.getD_eq_getElem?_getD, List.getD_eq_getElem?_getD, List.getElem?_take_of_lt (by omega)]

theorem bitN_drop (bs : List UInt8) (k i : Nat) : bitN (bs.drop k) i = bitN bs (8 * k + i) := by
  unfold bitN
  rw [List.getD_eq_getElem?_getD, List.getD_eq_getElem?_getD, List.getElem?_drop, show (8 * k + i) / 8 = k + i / 8 from by omega, show (8 * k + i) % 8 = i % 8 from by omega]

theorem bitN_set_ne {bs : List UInt8} {k i : Nat} {c : UInt8} (h : i / 8 ≠ k) : bitN (bs.set k c) i = bitN bs i := by
  unfold bitN
  rw [List.getD_eq_getElem?_getD, List.getD_eq_getElem?_getD, List.getElem?_set_ne (fun e => h e.symm)]

theorem fresh_bits {g : G} (hg : g.ok) (no : Int) (i : Nat) : (i < 128 → bitN (freshM g no) i = decide (i < (1 + g.inn / 4).toNat)) ∧ (130 ≤ i → bitN (freshM g no) i = false) := by
  have hk := (gok_iff g).1 hg
  have ht : g.tables = g.inn / 4 := by unfold G.tables; rw [if_pos hg]
  unfold freshM
  rw [ht]
  have hb := bitN_first (1 + g.inn / 4).toNat (by omega)
  constructor
  · intro hi
    split
    · rw [bitN_set_ne (by omega), hb]
    · rw [hb]
  · intro hi
    have hf : bitN (firstBits (1 + g.inn / 4).toNat) i = false := by rw [hb]; exact decide_eq_false (by omega)
    split
    · by_cases e : i / 8 = 16
      · unfold bitN
        rw [e, List.getD_eq_getElem?_getD, List.getElem?_set_self (by rw [firstBits_len]; decide)]
        have : i % 8 = 2 ∨ i % 8 = 3 ∨ i % 8 = 4 ∨ i % 8 = 5 ∨ i % 8 = 6 ∨ i % 8 = 7 := by omega
        rcases this with h | h | h | h | h | h <;> rw [h] <;> rfl
      · rw [bitN_set_ne e]; exact hf
    · exact hf

theorem fresh_right {g : G} (hg : g.ok) {no : Int} (h0 : 0 ≤ no) (h1 : no < g.gs) : rightB g ⟨no, freshM g no⟩ = true := by
  have hk := (gok_iff g).1 hg
  have hl := freshM_len g no
  unfold rightB
  have hbl : (Hd.blk ⟨no, freshM g no⟩).length = 16 := by simp [Hd.blk, hl]
  have hsl : (Hd.slt ⟨no, freshM g no⟩).length = 8 := by simp [Hd.slt, hl]
  rw [decide_eq_true (⟨hg, h0, h1⟩ : g.ok ∧ 0 ≤ no ∧ no < g.gs), Bool.true_and, decide_eq_true (mixM_self hl), Bool.true_and]
  unfold mostB
  rw [hbl, hsl, Bool.and_eq_true, decide_eq_true_iff, decide_eq_true_iff]
  constructor
  · refine (cntB_more (by omega) (fun i h2 h3 => ?_)).symm
    show bitN ((freshM g no).take 16) i = false
    rw [bitN_take (by omega), (fresh_bits hg no i).1 (by omega)]
    exact decide_eq_false (by omega)
  · refine (cntB_more (by omega) (fun i h2 h3 => ?_)).symm
    show bitN ((freshM g no).drop 16) i = false
    rw [bitN_drop]
    exact (fresh_bits hg no _).2 (by omega)
end Go.Proofs.YtlkgjffffeohdaaGreat
