/- The sum of bytes. -/
import Derived.Test.YtlkgjffffeohdaaGreatNum
set_option linter.unusedVariables false
set_option linter.unusedSimpArgs false
namespace Go.Proofs.YtlkgjffffeohdaaGreat
open Go Go.Eng Go.Proofs

def wV (n : UInt32) : Value := .int .u32 n.toNat

def sumBit (s : UInt32) : UInt32 := (s >>> 1) ^^^ (3988292384 * (s &&& 1))
def sumBits : Nat → UInt32 → UInt32
  | 0, s => s
  | k + 1, s => sumBit (sumBits k s)
def sumHalf (j : Nat) : UInt32 := sumBits 4 (UInt32.ofNat j)
def sumNib (s : UInt32) : UInt32 := (s >>> 4) ^^^ sumHalf (s &&& 15).toNat
def sumStep (s : UInt32) (c : UInt8) : UInt32 := sumNib (sumNib (s ^^^ c.toUInt32))
def sumB (bs : List UInt8) : UInt32 := 4294967295 ^^^ bs.foldl sumStep 4294967295

/-- the table -/
def TB (H : HV) (r : Nat) (f : Nat → UInt32) : Prop := ∃ ty fr, H r = some (.cells ((List.range 16).map (fun j => wV (f j))).toArray ty fr) ∧ fr.2 = 0

theorem TB.put {H : HV} {r : Nat} {f : Nat → UInt32} {B : Nat} {M : Nat → Prop} {K : HV → Prop} (h : TB H r f) (i : Nat) (hi : i < 16) (v : UInt32) (hM : M r ∨ B ≤ r)
    (hK : ∀ H', (∀ j x, j ≠ r → H j = some x → H' j = some x) → TB H' r (fun j => if j = i then v else f j) → K H') : extStore B M H r (0 + (i : Int).toNat * 1) (cellsOf (wV v)) K := by
  obtain ⟨ty, fr, h1, h2⟩ := h
  have e : 0 + (i : Int).toNat * 1 = i := by simp
  rw [e]
  refine ⟨_, ty, fr, h1, by simp [cellsOf, wV, Value.cells]; omega, .inr (.inl (by omega)), hM, ?_, fun H' hU => hK H' hU.old ⟨ty, fr, ?_, h2⟩⟩
  · intro x hx; simp [cellsOf, wV, Value.cells] at hx; subst hx; rfl
  · rw [hU.new]
    show some (Obj.cells (setMany _ i [wV v]) ty fr) = _
    congr 2
    apply Array.ext
    · simp [setMany]
    · intro k h1 h2
      simp only [setMany, Array.getElem_setIfInBounds, List.getElem_toArray, List.getElem_map, List.getElem_range]
      by_cases hk : i = k
      · subst hk; simp
      · have hk' : ¬ k = i := fun e => hk e.symm
        simp [hk, hk']

theorem TB.get {H : HV} {r : Nat} {f : Nat → UInt32} (h : TB H r f) (i : Nat) (hi : i < 16) : RdC H r (0 + (i : Int).toNat * 1) (wV (f i)) := by
  obtain ⟨ty, fr, h1, h2⟩ := h
  refine ⟨_, ty, fr, h1, ?_⟩
  have e : 0 + (i : Int).toNat * 1 = i := by simp
  rw [e]
  simp [hi]

theorem nsum_ok {H : HV} {a : Option Addr} {n c : Nat} {bs : List UInt8} (w : World) (hs : ∀ i o, H i = some o → w.heap[i]? = some o) (hb : BS H a n c bs) (hn : n < 9223372036854775807) :
    Calls Tryz.prog 178 #[yV a n c] w (RetP (wV (sumB bs)) w) := by
  have hlen := hb.len
  refine fn_pure (args := [yV a n c]) tabH Tryz.func178 rfl (by kernel_rfl)  hs ?_
  (conv => whnf); repeat first | (refine drw (by decide +kernel) ?_; conv => whnf) | (refine fun (_ : Nat) (_ : _ ≤ _) (_ : _ = none) => ?_; conv => whnf)
  intro r H1 hB hN hE
  (conv => whnf); repeat first | (refine drw (by decide +kernel) ?_; conv => whnf) | (refine fun (_ : Nat) (_ : _ ≤ _) (_ : _ = none) => ?_; conv => whnf)
  refine VLoop.of (X := Nat × HV) (fun x => [(9, .v (.int .i64 x.1)), (0, .v (.slice a n c)), (3, .v (.pointer (some ⟨r, 0, none⟩)))]) (fun _ => []) (fun x => x.2)
    (fun x => x.1 ≤ 16 ∧ Sub H x.2 ∧ TB x.2 r (fun j => if j < x.1 then sumHalf j else 0)) (fun x => 16 - x.1) tabH (by kernel_rfl) (0, H1) ⟨Nat.zero_le _, hE.old, ?_⟩ ⟨rfl, rfl, rfl, trivial⟩ rfl rfl ?_
  · exact ⟨_, _, hE.new, rfl⟩
  intro x hi
  obtain ⟨hi1, hi2, hi3⟩ := hi
  (conv => whnf); repeat first | (refine drw (by decide +kernel) ?_; conv => whnf) | (refine fun (_ : Nat) (_ : _ ≤ _) (_ : _ = none) => ?_; conv => whnf)
  refine vif_dec (fun h1 => ?_) (fun h1 => ?_)
  · (conv => whnf); repeat first | (refine drw (by decide +kernel) ?_; conv => whnf) | (refine fun (_ : Nat) (_ : _ ≤ _) (_ : _ = none) => ?_; conv => whnf)
    refine VLoop.of (X := Nat) (fun k => [(14, .v (.int .i64 k)), (5, .v (wV (sumBits k (UInt32.ofNat x.1)))), (4, .v (.int .i64 x.1)), (9, .v (.int .i64 x.1)), (0, .v (.slice a n c)), (3, .v (.pointer (some ⟨r, 0, none⟩)))]) (fun _ => []) (fun _ => x.2)
      (fun k => k ≤ 4) (fun k => 4 - k) tabH (by kernel_rfl) 0 (by decide) ⟨rfl, ?_, rfl, rfl, rfl, rfl, trivial⟩ rfl rfl ?_
    · show some (SV.v (.int .u32 (IntKind.u32.wrap (x.1 : Int)))) = _
      rw [wrap_u32]; rfl
    intro k hk
    (conv => whnf); repeat first | (refine drw (by decide +kernel) ?_; conv => whnf) | (refine fun (_ : Nat) (_ : _ ≤ _) (_ : _ = none) => ?_; conv => whnf)
    refine vif_dec (fun h2 => ?_) (fun h2 => ?_)
    · (conv => whnf); repeat first | (refine drw (by decide +kernel) ?_; conv => whnf) | (refine fun (_ : Nat) (_ : _ ≤ _) (_ : _ = none) => ?_; conv => whnf)
      refine ⟨by decide, ?_⟩
      (conv => whnf); repeat first | (refine drw (by decide +kernel) ?_; conv => whnf) | (refine fun (_ : Nat) (_ : _ ≤ _) (_ : _ = none) => ?_; conv => whnf)
      refine ⟨k + 1, by omega, by omega, ⟨?_, ?_, rfl, rfl, rfl, rfl, trivial⟩, rfl, rfl⟩
      · show some (SV.v (.int .i64 (IntKind.wrap .i64 ((k : Int) + 1)))) = _
        rw [wrap64 (by omega)]; rfl
      · generalize hsb : sumBits k (UInt32.ofNat x.1) = s
        show some (SV.v (.int .u32 (bitI .xor .u32 ((s.toNat : Int).fdiv (2 ^ 1)) (IntKind.u32.wrap ((3988292384 : UInt32).toNat * bitI .and .u32 s.toNat ((1 : UInt32).toNat)))))) = some (SV.v (wV (sumBit (sumBits k _))))
        rw [hsb, (bitI_u32 s 1).2.1, u32_mul, u32_shr1, (bitI_u32 _ _).2.2]
        rfl
    · have hk4 : k = 4 := by omega
      subst hk4
      (conv => whnf); repeat first | (refine drw (by decide +kernel) ?_; conv => whnf) | (refine fun (_ : Nat) (_ : _ ≤ _) (_ : _ = none) => ?_; conv => whnf)
      refine ⟨⟨by omega, by omega⟩, ?_⟩
      (conv => whnf); repeat first | (refine drw (by decide +kernel) ?_; conv => whnf) | (refine fun (_ : Nat) (_ : _ ≤ _) (_ : _ = none) => ?_; conv => whnf)
      refine ⟨rfl, TB.put hi3 x.1 (by omega) _ (.inr hB) ?_⟩
      intro H2 hk2 ht2
      (conv => whnf); repeat first | (refine drw (by decide +kernel) ?_; conv => whnf) | (refine fun (_ : Nat) (_ : _ ≤ _) (_ : _ = none) => ?_; conv => whnf)
      refine ⟨(x.1 + 1, H2), ⟨by dsimp only; omega, fun q o hq => hk2 q o (fun e => by subst e; rw [hN] at hq; cases hq) (hi2 q o hq), ?_⟩, by dsimp only; omega, ⟨?_, rfl, rfl, trivial⟩, rfl, rfl⟩
      · obtain ⟨ty, fr, g1, g2⟩ := ht2
        refine ⟨ty, fr, ?_, g2⟩
        show H2 r = _
        rw [g1]
        congr 3
        refine List.map_congr_left fun j hj => ?_
        dsimp only
        by_cases e1 : j = x.1
        · subst e1; rw [if_pos rfl, if_pos (by omega)]; rfl
        · rw [if_neg e1]
          by_cases e2 : j < x.1
          · rw [if_pos e2, if_pos (by omega)]
          · rw [if_neg e2, if_neg (by omega)]
      · show some (SV.v (.int .i64 (IntKind.wrap .i64 ((x.1 : Int) + 1)))) = _
        rw [wrap64 (by omega)]; rfl
  · (conv => whnf); repeat first | (refine drw (by decide +kernel) ?_; conv => whnf) | (refine fun (_ : Nat) (_ : _ ≤ _) (_ : _ = none) => ?_; conv => whnf)
    have hx16 : x.1 = 16 := by omega
    have hb2 := hb.mono hi2
    refine VLoop.of (X := Nat) (fun i => [(29, .v (.int .i64 i)), (28, .v (.int .i64 n)), (27, .v (.slice a n c)), (6, .v (wV ((bs.take i).foldl sumStep 4294967295))), (3, .v (.pointer (some ⟨r, 0, none⟩)))]) (fun _ => []) (fun _ => x.2)
      (fun i => i ≤ n) (fun i => n - i) tabH (by kernel_rfl) 0 (Nat.zero_le _) ⟨rfl, rfl, rfl, rfl, rfl, trivial⟩ rfl rfl ?_
    intro i hi
    (conv => whnf); repeat first | (refine drw (by decide +kernel) ?_; conv => whnf) | (refine fun (_ : Nat) (_ : _ ≤ _) (_ : _ = none) => ?_; conv => whnf)
    refine vif_dec (fun h2 => ?_) (fun h2 => ?_)
    · obtain ⟨b, off, rfl⟩ := hb2.nonempty (by omega)
      (conv => whnf); repeat first | (refine drw (by decide +kernel) ?_; conv => whnf) | (refine fun (_ : Nat) (_ : _ ≤ _) (_ : _ = none) => ?_; conv => whnf)
      refine ⟨⟨by omega, by omega⟩, ?_⟩
      (conv => whnf); repeat first | (refine drw (by decide +kernel) ?_; conv => whnf) | (refine fun (_ : Nat) (_ : _ ≤ _) (_ : _ = none) => ?_; conv => whnf)
      refine ⟨_, hb2.get i (by omega), ?_⟩
      (conv => whnf); repeat first | (refine drw (by decide +kernel) ?_; conv => whnf) | (refine fun (_ : Nat) (_ : _ ≤ _) (_ : _ = none) => ?_; conv => whnf)
      refine ⟨by decide, ?_⟩
      (conv => whnf); repeat first | (refine drw (by decide +kernel) ?_; conv => whnf) | (refine fun (_ : Nat) (_ : _ ≤ _) (_ : _ = none) => ?_; conv => whnf)
      generalize hs0 : (bs.take i).foldl sumStep 4294967295 = s0
      generalize hc0 : bs.getD i 0 = c0
      have e0 : IntKind.u32.wrap (c0.toNat : Int) = (c0.toUInt32.toNat : Int) := by
        rw [wrap_u32]
        have : (UInt32.ofNat c0.toNat).toNat = c0.toUInt32.toNat := by
          rw [UInt32.toNat_ofNat', UInt8.toNat_toUInt32]
          have := c0.toNat_lt
          omega
        rw [this]
      have hx : ∀ a b : UInt32, bitI .xor .u32 a.toNat b.toNat = ((a ^^^ b).toNat : Int) := fun a b => (bitI_u32 a b).2.2
      have ha : ∀ a : UInt32, bitI .and .u32 a.toNat 15 = ((a &&& 15).toNat : Int) := fun a => (bitI_u32 a 15).2.1
      have hlt : ∀ a : UInt32, (a &&& 15).toNat < 16 := fun a => by
        rw [UInt32.toNat_and]
        have := Nat.and_le_right (n := a.toNat) (m := (15 : UInt32).toNat)
        have h15 : (15 : UInt32).toNat = 15 := rfl
        omega
      have hsh : ∀ a : UInt32, (a.toNat : Int).fdiv (2 ^ min (Int.toNat 4) IntKind.u32.bits) = ((a >>> 4).toNat : Int) := u32_shr4
      rw [e0, hx, ha]
      generalize hs1 : s0 ^^^ c0.toUInt32 = s1
      have hl1 := hlt s1
      refine ⟨⟨by omega, by omega⟩, ?_⟩
      (conv => whnf); repeat first | (refine drw (by decide +kernel) ?_; conv => whnf) | (refine fun (_ : Nat) (_ : _ ≤ _) (_ : _ = none) => ?_; conv => whnf)
      refine ⟨_, hi3.get (s1 &&& 15).toNat hl1, ?_⟩
      (conv => whnf); repeat first | (refine drw (by decide +kernel) ?_; conv => whnf) | (refine fun (_ : Nat) (_ : _ ≤ _) (_ : _ = none) => ?_; conv => whnf)
      rw [hsh]
      simp only [if_pos (show (s1 &&& 15).toNat < x.1 by omega)]
      rw [hx]
      refine ⟨by decide, ?_⟩
      (conv => whnf); repeat first | (refine drw (by decide +kernel) ?_; conv => whnf) | (refine fun (_ : Nat) (_ : _ ≤ _) (_ : _ = none) => ?_; conv => whnf)
      rw [ha]
      generalize hs2 : s1 >>> 4 ^^^ sumHalf (s1 &&& 15).toNat = s2
      have hl2 := hlt s2
      refine ⟨⟨by omega, by omega⟩, ?_⟩
      (conv => whnf); repeat first | (refine drw (by decide +kernel) ?_; conv => whnf) | (refine fun (_ : Nat) (_ : _ ≤ _) (_ : _ = none) => ?_; conv => whnf)
      refine ⟨_, hi3.get (s2 &&& 15).toNat hl2, ?_⟩
      (conv => whnf); repeat first | (refine drw (by decide +kernel) ?_; conv => whnf) | (refine fun (_ : Nat) (_ : _ ≤ _) (_ : _ = none) => ?_; conv => whnf)
      refine ⟨i + 1, by omega, by omega, ⟨?_, rfl, rfl, ?_, rfl, trivial⟩, rfl, rfl⟩
      · show some (SV.v (.int .i64 (IntKind.wrap .i64 ((i : Int) + 1)))) = _
        rw [wrap64 (by omega)]; rfl
      · show some (SV.v (.int .u32 (bitI .xor .u32 ((s2.toNat : Int).fdiv (2 ^ 4)) (if (s2 &&& 15).toNat < x.1 then sumHalf (s2 &&& 15).toNat else 0).toNat))) = _
        rw [u32_shr4, if_pos (by omega), hx, List.take_succ_eq_append_getElem (by omega), List.foldl_append, hs0]
        have : bs[i] = c0 := by rw [← hc0]; simp [List.getD, List.getElem?_eq_getElem (show i < bs.length by omega)]
        rw [this]
        show _ = some (SV.v (.int .u32 (sumStep s0 c0).toNat))
        rw [← hs2, ← hs1]; rfl
    · have : i = n := by omega
      subst this
      (conv => whnf); repeat first | (refine drw (by decide +kernel) ?_; conv => whnf) | (refine fun (_ : Nat) (_ : _ ≤ _) (_ : _ = none) => ?_; conv => whnf)
      rw [← hlen, List.take_length]
      unfold sumB
      generalize bs.foldl sumStep 4294967295 = s
      show Value.int .u32 (bitI .xor .u32 ((4294967295 : UInt32).toNat) s.toNat) = _
      rw [(bitI_u32 _ _).2.2]; rfl
end Go.Proofs.YtlkgjffffeohdaaGreat
