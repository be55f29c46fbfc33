/- Words on memory and numbers that the contracts use. -/
import Derived.Test.YtlkgjffffeohdaaGreatEngF
set_option linter.unusedVariables false
namespace Go.Eng
open Go

/-! ### integers -/
theorem wrap_id {k : IntKind} {n : Int} (h : k.min ≤ n ∧ n ≤ k.max) : k.wrap n = n := by
  cases k <;> simp [IntKind.min, IntKind.max, IntKind.signed, IntKind.bits] at h <;> simp [IntKind.wrap, IntKind.signed, IntKind.bits] <;> omega

theorem wrap64 {n : Int} (h : -9223372036854775808 ≤ n ∧ n ≤ 9223372036854775807) : IntKind.wrap .i64 n = n := wrap_id (by
  have e1 : IntKind.min .i64 = -9223372036854775808 := by decide
  have e2 : IntKind.max .i64 = 9223372036854775807 := by decide
  rw [e1, e2]; exact h)

theorem ofInt_nat (w n : Nat) : BitVec.ofInt w (n : Int) = BitVec.ofNat w n := by simp

theorem bitI_u8 (a b : UInt8) : bitI .or .u8 a.toNat b.toNat = ((a ||| b).toNat : Int) ∧ bitI .and .u8 a.toNat b.toNat = ((a &&& b).toNat : Int) ∧ bitI .xor .u8 a.toNat b.toNat = ((a ^^^ b).toNat : Int) ∧
    bitI .andNot .u8 a.toNat b.toNat = ((a &&& ~~~b).toNat : Int) := by
  have h : ∀ x : BitVec 8, IntKind.wrap .u8 (x.toNat : Int) = x.toNat := fun x => wrap_id (by
    have e1 : IntKind.min .u8 = 0 := by decide
    have e2 : IntKind.max .u8 = 255 := by decide
    have := x.isLt
    rw [e1, e2]; omega)
  have e : ∀ c : UInt8, BitVec.ofInt 8 (c.toNat : Int) = c.toBitVec := fun c => by simp
  simp only [bitI, IntKind.bits, e, h]
  exact ⟨rfl, rfl, rfl, rfl⟩

theorem bitI_u32 (a b : UInt32) : bitI .or .u32 a.toNat b.toNat = ((a ||| b).toNat : Int) ∧ bitI .and .u32 a.toNat b.toNat = ((a &&& b).toNat : Int) ∧ bitI .xor .u32 a.toNat b.toNat = ((a ^^^ b).toNat : Int) := by
  have h : ∀ x : BitVec 32, IntKind.wrap .u32 (x.toNat : Int) = x.toNat := fun x => wrap_id (by
    have e1 : IntKind.min .u32 = 0 := by decide
    have e2 : IntKind.max .u32 = 4294967295 := by decide
    have := x.isLt
    rw [e1, e2]; omega)
  have e : ∀ c : UInt32, BitVec.ofInt 32 (c.toNat : Int) = c.toBitVec := fun c => by simp
  simp only [bitI, IntKind.bits, e, h]
  exact ⟨rfl, rfl, rfl⟩

theorem bitI_u64 (a b : UInt64) : bitI .or .u64 a.toNat b.toNat = ((a ||| b).toNat : Int) ∧ bitI .and .u64 a.toNat b.toNat = ((a &&& b).toNat : Int) ∧ bitI .xor .u64 a.toNat b.toNat = ((a ^^^ b).toNat : Int) := by
  have h : ∀ x : BitVec 64, IntKind.wrap .u64 (x.toNat : Int) = x.toNat := fun x => wrap_id (by
    have e1 : IntKind.min .u64 = 0 := by decide
    have e2 : IntKind.max .u64 = 18446744073709551615 := by decide
    have := x.isLt
    rw [e1, e2]; omega)
  have e : ∀ c : UInt64, BitVec.ofInt 64 (c.toNat : Int) = c.toBitVec := fun c => by simp
  simp only [bitI, IntKind.bits, e, h]
  exact ⟨rfl, rfl, rfl⟩

/-- what a contract says, kept closed -/
structure Is (p : Prop) : Prop where
  out : p

/-! ### bytes -/
def Sub (H H' : HV) : Prop := ∀ i o, H i = some o → H' i = some o
theorem Ext.sub {H H' : HV} {r : Nat} {o : Obj} (h : Ext H H' r o) : Sub H H' := h.old

theorem Sub.none {H H' : HV} (h : Sub H H') {i : Nat} (hn : H' i = none) : H i = none := by
  cases hh : H i with
  | none => rfl
  | some x => rw [h i x hh] at hn; cases hn

/-- a slice that reads as bytes -/
structure BS (H : HV) (a : Option Addr) (n c : Nat) (bs : List UInt8) : Prop where
  len : bs.length = n
  le : n ≤ c
  rd : RdS H 1 n (.slice a n c) (bytesV bs)

theorem BS.nonempty {H : HV} {a : Option Addr} {n c : Nat} {bs : List UInt8} (h : BS H a n c bs) (hn : 0 < n) : ∃ b off, a = some ⟨b, off, none⟩ := by
  have h2 := h.rd
  have hl := h.len
  unfold RdS at h2
  split at h2
  · rename_i b off _ _ heq; cases heq; exact ⟨b, off, rfl⟩
  · have : bs = [] := by simpa [bytesV] using h2
    rw [this] at hl; simp at hl; omega
  · rename_i heq; cases heq
  · exact h2.elim

theorem BS.get {H : HV} {b off n c : Nat} {bs : List UInt8} (h : BS H (some ⟨b, off, none⟩) n c bs) (i : Nat) (hi : i < n) :
    RdC H b (off + i * 1) (.int .u8 (bs.getD i 0).toNat) := by
  obtain ⟨arr, ty, fr, hb, hl, he⟩ := h.rd
  refine ⟨arr, ty, fr, hb, ?_⟩
  have hlen := h.len
  have h1 : (bytesV bs)[i]? = some (.int .u8 (bs.getD i 0).toNat) := by
    simp [bytesV, List.getElem?_eq_getElem (show i < bs.length by omega), List.getD]
  rw [he] at h1
  rw [Array.getElem?_toList, Array.getElem?_extract] at h1
  rw [if_pos (by omega)] at h1
  rw [Nat.mul_one]
  exact h1

theorem BS.mono {H H' : HV} {a : Option Addr} {n c : Nat} {bs : List UInt8} (h : BS H a n c bs) (hs : Sub H H') : BS H' a n c bs := by
  refine ⟨h.len, h.le, ?_⟩
  have h2 := h.rd
  unfold RdS at h2 ⊢
  split at h2
  · obtain ⟨arr, ty, fr, hb, hl, he⟩ := h2
    exact ⟨arr, ty, fr, hs _ _ hb, hl, he⟩
  · exact h2
  · exact h2
  · exact h2.elim
theorem foldl_or_zero (bs : List UInt8) (a : UInt8) : (bs.foldl (· ||| ·) a == 0) = (a == 0 && bs.all (· == 0)) := by
  induction bs generalizing a with
  | nil => simp
  | cons b bs ih =>
    simp only [List.foldl_cons, List.all_cons, ih]
    rw [← Bool.and_assoc]
    congr 1
    have h : (a ||| b == 0) = true ↔ (a == 0 && b == 0) = true := by
      simp only [beq_iff_eq, Bool.and_eq_true]
      constructor
      · intro h
        have h1 : ∀ i, (a ||| b).toBitVec.getLsbD i = false := fun i => by rw [h]; simp
        simp only [UInt8.toBitVec_or, BitVec.getLsbD_or, Bool.or_eq_false_iff] at h1
        exact ⟨UInt8.toBitVec_inj.1 (BitVec.eq_of_getLsbD_eq fun i _ => by rw [(h1 i).1]; simp), UInt8.toBitVec_inj.1 (BitVec.eq_of_getLsbD_eq fun i _ => by rw [(h1 i).2]; simp)⟩
      · rintro ⟨rfl, rfl⟩; rfl
    cases h1 : (a ||| b == 0) <;> cases h2 : (a == 0 && b == 0) <;> simp_all

theorem take_succ_foldl (bs : List UInt8) (i : Nat) (hi : i < bs.length) (a : UInt8) : (bs.take (i + 1)).foldl (· ||| ·) a = (bs.take i).foldl (· ||| ·) a ||| bs.getD i 0 := by
  rw [List.take_succ_eq_append_getElem hi, List.foldl_append]
  simp [List.getD, List.getElem?_eq_getElem hi]

/-- bytes in memory, all of a block -/
def BO (H : HV) (r : Nat) (bs : List UInt8) : Prop := ∃ ty fr, H r = some (.cells (bytesV bs).toArray ty fr) ∧ (fr.2 = 0 ∨ bs.length ≤ fr.1)

theorem BO.mono {H H' : HV} {r : Nat} {bs : List UInt8} (h : BO H r bs) (hs : ∀ o, H r = some o → H' r = some o) : BO H' r bs := by
  obtain ⟨ty, fr, h1, h2⟩ := h
  exact ⟨ty, fr, hs _ h1, h2⟩

theorem BO.bs {H : HV} {r : Nat} {bs : List UInt8} (h : BO H r bs) (off n c : Nat) (hl : off + n ≤ bs.length) (hc : n ≤ c) : BS H (some ⟨r, off, none⟩) n c ((bs.drop off).take n) := by
  obtain ⟨ty, fr, h1, h2⟩ := h
  refine ⟨by simp; omega, hc, ⟨_, ty, fr, h1, by simp [bytesV]; omega, ?_⟩⟩
  simp [bytesV, List.extract_eq_take_drop, List.map_take, List.map_drop]

theorem BO.all {H : HV} {r : Nat} {bs : List UInt8} (h : BO H r bs) (c : Nat) (hc : bs.length ≤ c) : BS H (some ⟨r, 0, none⟩) bs.length c bs := by
  have := h.bs 0 bs.length c (by omega) hc
  simpa using this

/-- some bytes over others -/
def splice (bs : List UInt8) (off : Nat) (xs : List UInt8) : List UInt8 := bs.take off ++ xs ++ bs.drop (off + xs.length)

theorem splice_length {bs : List UInt8} {off : Nat} {xs : List UInt8} (h : off + xs.length ≤ bs.length) : (splice bs off xs).length = bs.length := by
  simp [splice]; omega

theorem setMany_bytes : ∀ (xs : List UInt8) (bs : List UInt8) (off : Nat), off + xs.length ≤ bs.length → setMany (bytesV bs).toArray off (bytesV xs) = (bytesV (splice bs off xs)).toArray
  | [], bs, off, h => by simp [bytesV, setMany, splice]
  | x :: xs, bs, off, h => by
    have hlt : off < bs.length := by simp at h; omega
    have e1 : (bytesV bs).toArray.setIfInBounds off (.int .u8 x.toNat) = (bytesV (bs.set off x)).toArray := by
      simp [bytesV, List.map_set]
    show setMany ((bytesV bs).toArray.setIfInBounds off (.int .u8 x.toNat)) (off + 1) (bytesV xs) = _
    rw [e1, setMany_bytes xs (bs.set off x) (off + 1) (by simp at h ⊢; omega)]
    congr 2
    unfold splice
    rw [List.take_set, List.drop_set, if_pos (by omega)]
    have : (bs.take (off + 1)).set off x = bs.take off ++ [x] := by
      rw [List.take_succ_eq_append_getElem hlt]
      rw [List.set_append_right _ _ (by simp; omega)]
      simp [Nat.min_eq_left (Nat.le_of_lt hlt)]
    rw [this]
    simp [Nat.add_assoc, Nat.add_comm 1]

theorem oneCell_bytes (xs : List UInt8) : ∀ v ∈ bytesV xs, v.oneCell' = true := by
  intro v hv
  simp only [bytesV, List.mem_map] at hv
  obtain ⟨b, _, rfl⟩ := hv
  rfl

theorem BO.notFr {bs : List UInt8} {fr : Nat × Nat} (h : fr.2 = 0 ∨ bs.length ≤ fr.1) {off n : Nat} (hl : off + n ≤ bs.length) : notFr fr off n := by
  unfold Go.Eng.notFr; omega

/-- a store of bytes -/
theorem BO.store {H : HV} {r : Nat} {bs : List UInt8} {B : Nat} {M : Nat → Prop} {K : HV → Prop} (h : BO H r bs) (xs : List UInt8) (off : Nat) (hl : off + xs.length ≤ bs.length) (hM : M r ∨ B ≤ r)
    (hK : ∀ H', (∀ i x, i ≠ r → H i = some x → H' i = some x) → BO H' r (splice bs off xs) → K H') : extStore B M H r off (bytesV xs) K := by
  obtain ⟨ty, fr, h1, h2⟩ := h
  have hx : (bytesV xs).length = xs.length := by simp [bytesV]
  refine ⟨_, ty, fr, h1, by rw [hx]; simp [bytesV]; omega, by rw [hx]; exact BO.notFr h2 hl, hM, oneCell_bytes xs, fun H' hU => hK H' hU.old ⟨ty, fr, ?_, ?_⟩⟩
  · rw [← setMany_bytes xs bs off hl]; exact hU.new
  · rw [splice_length hl]; exact h2

theorem wrap_u8 (n : Nat) : IntKind.u8.wrap (n : Int) = ((UInt8.ofNat n).toNat : Int) := by
  have : IntKind.u8.wrap (n : Int) = (n : Int) % 256 := rfl
  rw [this]
  simp [UInt8.toNat_ofNat']

theorem fdiv_nat (n : Nat) : (n : Int).fdiv (2 ^ 8) = ((n / 256 : Nat) : Int) := by
  rw [Int.fdiv_eq_ediv_of_nonneg _ (by decide)]
  norm_cast

/-- back -/
def leN : List UInt8 → Nat
  | [] => 0
  | b :: bs => b.toNat + 256 * leN bs

theorem leN_append : ∀ (bs cs : List UInt8), leN (bs ++ cs) = leN bs + 256 ^ bs.length * leN cs
  | [], cs => by simp [leN]
  | b :: bs, cs => by
    simp only [List.cons_append, leN, leN_append bs cs, List.length_cons, Nat.pow_succ, Nat.mul_add]
    rw [← Nat.mul_assoc, Nat.mul_comm 256 (256 ^ bs.length)]
    omega

theorem leN_lt : ∀ (bs : List UInt8), leN bs < 256 ^ bs.length
  | [] => by simp [leN]
  | b :: bs => by
    have := leN_lt bs
    have hb := b.toNat_lt
    simp only [leN, List.length_cons, Nat.pow_succ]
    omega

/-- a number's bytes, the lowest first -/
def leB : Nat → Nat → List UInt8
  | 0, _ => []
  | n + 1, v => UInt8.ofNat v :: leB n (v / 256)

theorem leB_length : ∀ (n v : Nat), (leB n v).length = n
  | 0, _ => rfl
  | n + 1, v => by simp [leB, leB_length n]

theorem leB_succ : ∀ (n v : Nat), leB (n + 1) v = leB n v ++ [UInt8.ofNat (v / 256 ^ n)]
  | 0, v => by simp [leB]
  | n + 1, v => by
    rw [leB, leB_succ n (v / 256), leB, List.cons_append, Nat.div_div_eq_div_mul, Nat.pow_succ, Nat.mul_comm 256]

theorem splice_succ {bs : List UInt8} {off : Nat} {xs : List UInt8} {x : UInt8} (h : off + xs.length < bs.length) : splice (splice bs off xs) (off + xs.length) [x] = splice bs off (xs ++ [x]) := by
  unfold splice
  have e : (bs.take off ++ xs).length = off + xs.length := by simp; omega
  rw [List.append_assoc, ← List.append_assoc, List.take_append_of_le_length (by omega), List.drop_append, List.take_of_length_le (by omega)]
  rw [List.drop_of_length_le (by simp; omega)]
  simp only [List.nil_append, List.length_append, List.length_cons, List.length_nil, List.append_assoc, List.drop_drop]
  congr 4
  simp; omega

theorem bo_zero (n : Nat) : zeroL n [Value.int .u8 0] = bytesV (List.replicate n 0) := by
  induction n with
  | zero => rfl
  | succ n ih =>
    rw [List.replicate_succ]
    show zeroL (n + 1) [Value.int .u8 0] = Value.int .u8 0 :: bytesV (List.replicate n 0)
    rw [← ih]
    simp [zeroL, List.replicate_succ]

theorem take_succ_leN (bs : List UInt8) (i : Nat) (hi : i < bs.length) : leN (bs.take (i + 1)) = leN (bs.take i) + 256 ^ i * (bs.getD i 0).toNat := by
  rw [List.take_succ_eq_append_getElem hi, leN_append, List.length_take, Nat.min_eq_left (by omega)]
  simp [leN, List.getD, List.getElem?_eq_getElem hi]

theorem wrap_u64 {n : Nat} (h : n < 18446744073709551616) : IntKind.u64.wrap (n : Int) = n := wrap_id (by
  have e1 : IntKind.min .u64 = 0 := by decide
  have e2 : IntKind.max .u64 = 18446744073709551615 := by decide
  rw [e1, e2]; omega)

theorem pow256 (i : Nat) : 256 ^ i = 2 ^ (8 * i) := by rw [Nat.pow_mul]

theorem or_step {i a b : Nat} (hi : i < 8) (ha : a < 256 ^ i) (hb : b < 256) :
    bitI .or .u64 (a : Int) (IntKind.u64.wrap (IntKind.u64.wrap (b : Int) * 2 ^ min (8 * (i : Int)).toNat 64)) = ((a + 256 ^ i * b : Nat) : Int) := by
  have e1 : min (8 * (i : Int)).toNat 64 = 8 * i := by omega
  have hp : 256 ^ i * b < 18446744073709551616 ∧ a + 256 ^ i * b < 18446744073709551616 := by
    have h1 : 256 ^ i ≤ 256 ^ 7 := Nat.pow_le_pow_right (by omega) (by omega)
    have h2 : 256 ^ i * b ≤ 256 ^ i * 255 := Nat.mul_le_mul_left _ (by omega)
    have h3 : (256 : Nat) ^ 7 = 72057594037927936 := by decide
    omega
  rw [e1, wrap_u64 (by omega)]
  have e2 : ((b : Int) * 2 ^ (8 * i)) = ((256 ^ i * b : Nat) : Int) := by rw [pow256]; push_cast; rw [Int.mul_comm]
  rw [e2, wrap_u64 hp.1]
  have e3 : bitI .or .u64 (a : Int) ((256 ^ i * b : Nat) : Int) = IntKind.u64.wrap ((BitVec.ofNat 64 a ||| BitVec.ofNat 64 (256 ^ i * b)).toNat : Int) := by
    simp only [bitI, IntKind.bits, ofInt_nat]
    rfl
  rw [e3, BitVec.toNat_or, BitVec.toNat_ofNat, BitVec.toNat_ofNat, Nat.mod_eq_of_lt (by omega), Nat.mod_eq_of_lt (by omega)]
  have e4 : a ||| 256 ^ i * b = a + 256 ^ i * b := by
    rw [pow256] at ha ⊢
    have := Nat.shiftLeft_add_eq_or_of_lt ha b
    rw [Nat.shiftLeft_eq, Nat.mul_comm] at this
    rw [Nat.or_comm, ← this, Nat.add_comm]
  rw [e4, wrap_u64 hp.2]

theorem wrap_u32 (n : Nat) : IntKind.u32.wrap (n : Int) = ((UInt32.ofNat n).toNat : Int) := by
  have : IntKind.u32.wrap (n : Int) = (n : Int) % 4294967296 := rfl
  have h : (UInt32.ofNat n).toNat = n % 4294967296 := UInt32.toNat_ofNat'
  rw [this, h]
  omega

theorem u32_mul (a b : UInt32) : IntKind.u32.wrap ((a.toNat : Int) * (b.toNat : Int)) = ((a * b).toNat : Int) := by
  have : IntKind.u32.wrap ((a.toNat : Int) * (b.toNat : Int)) = ((a.toNat : Int) * (b.toNat : Int)) % 4294967296 := rfl
  have h : (a * b).toNat = a.toNat * b.toNat % 4294967296 := UInt32.toNat_mul a b
  rw [this, h, Int.natCast_emod, Int.natCast_mul]
  rfl

theorem u32_shr1 (a : UInt32) : (a.toNat : Int).fdiv (2 ^ 1) = ((a >>> 1).toNat : Int) := by
  rw [Int.fdiv_eq_ediv_of_nonneg _ (by decide), UInt32.toNat_shiftRight]
  simp [Nat.shiftRight_eq_div_pow]

theorem u32_shr4 (a : UInt32) : (a.toNat : Int).fdiv (2 ^ 4) = ((a >>> 4).toNat : Int) := by
  rw [Int.fdiv_eq_ediv_of_nonneg _ (by decide), UInt32.toNat_shiftRight]
  simp [Nat.shiftRight_eq_div_pow]

theorem BS.take {H : HV} {a : Option Addr} {n c : Nat} {bs : List UInt8} (h : BS H a n c bs) (m : Nat) (hm : m ≤ n) : RdS H 1 m (.slice a n c) (bytesV (bs.take m)) := by
  have h2 := h.rd
  have hl := h.len
  cases a with
  | none =>
    have h3 : bytesV bs = [] := h2
    have : bs = [] := by simpa [bytesV] using h3
    subst this
    show bytesV ([].take m) = []
    simp [bytesV]
  | some ad =>
    obtain ⟨b, off, sp⟩ := ad
    cases sp with
    | some s => exact h2.elim
    | none =>
      obtain ⟨arr, ty, fr, hb, hl2, he⟩ := h2
      refine ⟨arr, ty, fr, hb, by omega, ?_⟩
      have : bytesV (bs.take m) = (bytesV bs).take m := by simp [bytesV, List.map_take]
      rw [this, he]
      simp only [Array.toList_extract, List.extract_eq_take_drop, List.take_take, Nat.add_sub_cancel_left]
      congr 1
      omega

theorem bo_made {H1 : HV} {r n t : Nat} (h : H1 r = some (.cells (zeroL n [Value.int .u8 0]).toArray t (0, 0))) : BO H1 r (List.replicate n 0) := ⟨t, (0, 0), by rw [h, bo_zero], .inl rfl⟩

/-- where two differ, as far as some -/
def diffS (bs xs : List UInt8) : Nat → Int × Int
  | 0 => (-1, -1)
  | i + 1 => if i < bs.length ∧ i < xs.length ∧ bs.getD i 0 = xs.getD i 0 then diffS bs xs i else (if (diffS bs xs i).1 < 0 then (i : Int) else (diffS bs xs i).1, (i : Int) + 1)

theorem diffS_small (bs xs : List UInt8) : ∀ i, -1 ≤ (diffS bs xs i).1 ∧ (diffS bs xs i).1 ≤ i ∧ -1 ≤ (diffS bs xs i).2 ∧ (diffS bs xs i).2 ≤ i
  | 0 => by simp [diffS]
  | i + 1 => by
    have := diffS_small bs xs i
    unfold diffS
    split
    · omega
    · dsimp only; split <;> omega

theorem diffS_none (bs xs : List UInt8) : ∀ i, (diffS bs xs i).1 < 0 ↔ ∀ j, j < i → j < bs.length ∧ j < xs.length ∧ bs.getD j 0 = xs.getD j 0
  | 0 => by simp [diffS]
  | i + 1 => by
    have ih := diffS_none bs xs i
    unfold diffS
    split
    · rename_i h
      rw [ih]
      constructor
      · intro h2 j hj
        rcases Nat.lt_succ_iff_lt_or_eq.1 hj with h3 | h3
        · exact h2 j h3
        · subst h3; exact h
      · intro h2 j hj; exact h2 j (by omega)
    · rename_i h
      constructor
      · intro h2
        exfalso
        dsimp only at h2
        split at h2 <;> omega
      · intro h2; exact (h (h2 i (by omega))).elim

theorem diffS_eq (bs xs : List UInt8) : (diffS bs xs (max bs.length xs.length)).1 < 0 ↔ bs = xs := by
  rw [diffS_none]
  constructor
  · intro h
    have hl : bs.length = xs.length := by
      rcases Nat.lt_trichotomy bs.length xs.length with hq | hq | hq
      · have := h bs.length (by omega); omega
      · exact hq
      · have := h xs.length (by omega); omega
    refine List.ext_getElem hl fun i h1 h2 => ?_
    have := (h i (by omega)).2.2
    simpa [List.getD, List.getElem?_eq_getElem h1, List.getElem?_eq_getElem h2] using this
  · rintro rfl j hj
    exact ⟨by omega, by omega, rfl⟩

/-! ### bits -/
def bitN (bs : List UInt8) (i : Nat) : Bool := (bs.getD (i / 8) 0).toNat.testBit (i % 8)
def bitZ (bs : List UInt8) (i : Int) : Bool := decide (0 ≤ i) && bitN bs i.toNat
def mask (k : Nat) : UInt8 := UInt8.ofNat (2 ^ k)

theorem mask_toNat {k : Nat} (hk : k < 8) : (mask k).toNat = 2 ^ k := by
  unfold mask
  rw [UInt8.toNat_ofNat']
  have h1 : 2 ^ k ≤ 2 ^ 7 := Nat.pow_le_pow_right (by omega) (by omega)
  exact Nat.mod_eq_of_lt (by omega)

theorem bitN_out {bs : List UInt8} {i : Nat} (h : 8 * bs.length ≤ i) : bitN bs i = false := by
  unfold bitN
  rw [List.getD, List.getElem?_eq_none (by omega)]
  simp

theorem wrap_mask {k : Nat} (hk : k < 8) : IntKind.u8.wrap (1 * 2 ^ min (k : Int).toNat 8) = ((mask k).toNat : Int) := by
  have e : min (k : Int).toNat 8 = k := by omega
  rw [e, mask_toNat hk]
  have h2 : 2 ^ k ≤ 2 ^ 7 := Nat.pow_le_pow_right (by omega) (by omega)
  have : (1 * 2 ^ k : Int) = ((2 ^ k : Nat) : Int) := by push_cast; rw [Int.one_mul]
  rw [this, wrap_u8, UInt8.toNat_ofNat']
  exact congrArg _ (Nat.mod_eq_of_lt (by omega))

theorem and_two_pow (n k : Nat) : n &&& 2 ^ k = if n.testBit k then 2 ^ k else 0 := by
  apply Nat.eq_of_testBit_eq
  intro j
  rw [Nat.testBit_and, Nat.testBit_two_pow]
  by_cases hj : k = j
  · subst hj
    cases hb : n.testBit k <;> simp
  · cases hb : n.testBit k <;> simp [hj]

theorem and_mask (c : UInt8) {k : Nat} (hk : k < 8) : (!decide (((c &&& mask k).toNat : Int) = 0)) = c.toNat.testBit k := by
  rw [UInt8.toNat_and, mask_toNat hk, and_two_pow]
  cases hb : c.toNat.testBit k with
  | false => simp
  | true =>
    have : 0 < 2 ^ k := Nat.pow_pos (by omega)
    have h2 : ¬ ((2 ^ k : Nat) : Int) = 0 := by omega
    simp only [if_true, decide_eq_false h2, Bool.not_false]

/-- a map with a bit set, or not -/
def setB (bs : List UInt8) (i : Nat) (on : Bool) : List UInt8 :=
  bs.set (i / 8) (if on then (bs.getD (i / 8) 0 &&& ~~~ mask (i % 8)) ||| mask (i % 8) else bs.getD (i / 8) 0 &&& ~~~ mask (i % 8))

theorem setB_length (bs : List UInt8) (i : Nat) (on : Bool) : (setB bs i on).length = bs.length := by simp [setB]

theorem testBit_mask {k j : Nat} (hk : k < 8) : (mask k).toNat.testBit j = decide (k = j) := by
  rw [mask_toNat hk, Nat.testBit_two_pow]

theorem u8_not_test (c : UInt8) (j : Nat) (hj : j < 8) : (~~~ c).toNat.testBit j = !c.toNat.testBit j := by
  have : (~~~ c).toNat = (~~~ c.toBitVec).toNat := rfl
  have h2 : c.toNat = c.toBitVec.toNat := rfl
  rw [this, h2]
  show (~~~ c.toBitVec).getLsbD j = !c.toBitVec.getLsbD j
  rw [BitVec.getLsbD_not]
  simp [hj]

theorem bitN_setB (bs : List UInt8) (i : Nat) (on : Bool) (hi : i < 8 * bs.length) (j : Nat) : bitN (setB bs i on) j = if j = i then on else bitN bs j := by
  unfold bitN setB
  by_cases hq : j / 8 = i / 8
  · rw [hq, List.getD, List.getElem?_set_self (by omega)]
    have hk : i % 8 < 8 := by omega
    have hj : j % 8 < 8 := by omega
    simp only [Option.getD_some]
    have e : j = i ↔ i % 8 = j % 8 := by omega
    cases on with
    | true =>
      simp only [if_true, UInt8.toNat_or, UInt8.toNat_and, Nat.testBit_or, Nat.testBit_and, u8_not_test _ _ hj, testBit_mask hk]
      by_cases h : i % 8 = j % 8
      · rw [if_pos (e.2 h)]; simp [h]
      · rw [if_neg (fun h2 => h (e.1 h2))]; simp [h, List.getD]
    | false =>
      simp only [Bool.false_eq_true, if_false, UInt8.toNat_and, Nat.testBit_and, u8_not_test _ _ hj, testBit_mask hk]
      by_cases h : i % 8 = j % 8
      · rw [if_pos (e.2 h)]; simp [h]
      · rw [if_neg (fun h2 => h (e.1 h2))]; simp [h, List.getD]
  · rw [List.getD, List.getElem?_set_ne (fun h => hq h.symm)]
    rw [if_neg (fun h => hq (by rw [h]))]
    rfl

/-- how many of the first are set -/
def cntB (bs : List UInt8) : Nat → Nat
  | 0 => 0
  | i + 1 => cntB bs i + (bitN bs i).toNat

theorem cntB_le (bs : List UInt8) : ∀ i, cntB bs i ≤ i
  | 0 => Nat.le_refl _
  | i + 1 => by have := cntB_le bs i; simp only [cntB]; cases bitN bs i <;> simp <;> omega

def mostB (bs : List UInt8) (n : Int) : Nat := min n.toNat (8 * bs.length)

/-- the first one that is not set, from a place on -/
def nextB (bs : List UInt8) : Nat → Nat → Option Nat
  | _, 0 => none
  | i, k + 1 => if bitN bs i = false then some i else nextB bs (i + 1) k

theorem nextB_some (bs : List UInt8) : ∀ (k i j : Nat), i ≤ j → j < i + k → bitN bs j = false → (∀ l, i ≤ l → l < j → bitN bs l = true) → nextB bs i k = some j
  | 0, i, j, h1, h2, _, _ => by omega
  | k + 1, i, j, h1, h2, h3, h4 => by
    unfold nextB
    by_cases e : i = j
    · subst e; rw [if_pos h3]
    · rw [if_neg (by rw [h4 i (Nat.le_refl _) (by omega)]; simp)]
      exact nextB_some bs k (i + 1) j (by omega) (by omega) h3 (fun l h5 h6 => h4 l (by omega) h6)

theorem nextB_none (bs : List UInt8) : ∀ (k i : Nat), (∀ l, i ≤ l → l < i + k → bitN bs l = true) → nextB bs i k = none
  | 0, i, _ => rfl
  | k + 1, i, h => by
    unfold nextB
    rw [if_neg (by rw [h i (Nat.le_refl _) (by omega)]; simp)]
    exact nextB_none bs k (i + 1) (fun l h5 h6 => h l (by omega) (by omega))

theorem nextB_spec (bs : List UInt8) : ∀ (k i : Nat), match nextB bs i k with
    | some j => i ≤ j ∧ j < i + k ∧ bitN bs j = false ∧ ∀ l, i ≤ l → l < j → bitN bs l = true
    | none => ∀ l, i ≤ l → l < i + k → bitN bs l = true
  | 0, i => by intro l h1 h2; omega
  | k + 1, i => by
    unfold nextB
    by_cases e : bitN bs i = false
    · rw [if_pos e]
      exact ⟨Nat.le_refl _, by omega, e, fun l h1 h2 => by omega⟩
    · rw [if_neg e]
      have ih := nextB_spec bs k (i + 1)
      have e' : bitN bs i = true := by simpa using e
      split at ih
      · rename_i j hj
        refine ⟨by omega, by omega, ih.2.2.1, fun l h1 h2 => ?_⟩
        by_cases hl : l = i
        · subst hl; exact e'
        · exact ih.2.2.2 l (by omega) h2
      · rename_i hj
        intro l h1 h2
        by_cases hl : l = i
        · subst hl; exact e'
        · exact ih l (by omega) (by omega)

def optZ : Option Nat → Int
  | some i => i
  | none => -1

def fromB (n from_ : Int) : Nat := if from_ < 0 ∨ from_ > n then 0 else from_.toNat

/-- the first one that is not set, from a place on, and from the beginning behind the end -/
def firstB (bs : List UInt8) (n from_ : Int) : Int :=
  match nextB bs (fromB n from_) (mostB bs n - fromB n from_) with
  | some i => i
  | none => optZ (nextB bs 0 (min (mostB bs n) (fromB n from_)))

theorem splice_one (bs : List UInt8) (k : Nat) (c : UInt8) (hk : k < bs.length) : splice bs k [c] = bs.set k c := by
  unfold splice
  rw [List.set_eq_take_append_cons_drop, if_pos hk]
  simp

theorem BO.put1 {H : HV} {r : Nat} {bs : List UInt8} {B : Nat} {M : Nat → Prop} {K : HV → Prop} (h : BO H r bs) (k : Nat) (hk : k < bs.length) (c : UInt8) {x : Int} (hx : x = (c.toNat : Int)) (hM : M r ∨ B ≤ r)
    (hK : ∀ H', (∀ i x, i ≠ r → H i = some x → H' i = some x) → BO H' r (bs.set k c) → K H') : extStore B M H r (0 + (k : Int).toNat * 1) (cellsOf (.int .u8 x)) K := by
  subst hx
  have e : 0 + (k : Int).toNat * 1 = k := by simp
  rw [e]
  exact BO.store h [c] k (by simp; omega) hM (fun H' h1 h2 => hK H' h1 (by rw [← splice_one bs k c hk]; exact h2))

theorem bitI_u8n (a b : UInt8) : bitI .andNot .u8 a.toNat b.toNat = ((a &&& ~~~b).toNat : Int) := (bitI_u8 a b).2.2.2

theorem nextB_succ (bs : List UInt8) (k : Nat) : nextB bs 0 (k + 1) = match nextB bs 0 k with | some j => some j | none => if bitN bs k = false then some k else none := by
  have hsp := nextB_spec bs k 0
  cases hn : nextB bs 0 k with
  | some j =>
    rw [hn] at hsp
    exact nextB_some bs (k + 1) 0 j (by omega) (by omega) hsp.2.2.1 hsp.2.2.2
  | none =>
    rw [hn] at hsp
    simp only at hsp ⊢
    by_cases hb : bitN bs k = false
    · rw [if_pos hb]
      exact nextB_some bs (k + 1) 0 k (by omega) (by omega) hb (fun l h1 h2 => hsp l h1 (by omega))
    · rw [if_neg hb]
      refine nextB_none bs (k + 1) 0 (fun l h1 h2 => ?_)
      by_cases hl : l = k
      · subst hl; simpa using hb
      · exact hsp l h1 (by omega)

theorem nextB_min (bs : List UInt8) (m f : Nat) (hall : ∀ l, f ≤ l → l < m → bitN bs l = true) : nextB bs 0 (min m f) = nextB bs 0 m := by
  have hsp := nextB_spec bs m 0
  cases hn : nextB bs 0 m with
  | some j =>
    rw [hn] at hsp
    have hjf : j < f := Classical.byContradiction fun hq => by
      have := hall j (by omega) (by omega)
      rw [hsp.2.2.1] at this; cases this
    exact nextB_some bs (min m f) 0 j (by omega) (by omega) hsp.2.2.1 hsp.2.2.2
  | none =>
    rw [hn] at hsp
    exact nextB_none bs (min m f) 0 (fun l h3 h4 => hsp l h3 (by omega))

theorem optZ_neg {o : Option Nat} : optZ o < 0 ↔ o = none := by
  cases o with
  | none => simp [optZ]
  | some j => simp [optZ]

theorem BO.all' {H : HV} {r : Nat} {bs : List UInt8} {n : Nat} (h : BO H r bs) (hl : bs.length = n) (c : Nat) (hc : n ≤ c) : BS H (some ⟨r, 0, none⟩) n c bs := by
  subst hl; exact h.all c hc

theorem getD_set (bs : List UInt8) (i : Nat) (c : UInt8) (h : i < bs.length) : (bs.set i c).getD i 0 = c := by
  simp [List.getD, h]

/-! ### a number and bytes behind it -/
structure Hd where
  no : Int
  m : List UInt8
deriving DecidableEq

def Hd.blk (h : Hd) : List UInt8 := h.m.take 16
def Hd.slt (h : Hd) : List UInt8 := h.m.drop 16

def hL (h : Hd) : List Value := .int .i64 h.no :: bytesV h.m
def hV (h : Hd) : Value := .agg ⟨hL h⟩
def hZ : Hd := ⟨0, List.replicate 24 0⟩

def HO (H : HV) (r : Nat) (h : Hd) : Prop := ∃ ty, H r = some (.cells (hL h).toArray ty (0, 0))

theorem HO.mono {H H' : HV} {r : Nat} {h : Hd} (ho : HO H r h) (hs : ∀ o, H r = some o → H' r = some o) : HO H' r h := by
  obtain ⟨ty, h1⟩ := ho
  exact ⟨ty, hs _ h1⟩

theorem HO.bs {H : HV} {r : Nat} {h : Hd} (ho : HO H r h) (off n c : Nat) (hl : off + n ≤ h.m.length) (hc : n ≤ c) : BS H (some ⟨r, 1 + off, none⟩) n c ((h.m.drop off).take n) := by
  obtain ⟨ty, h1⟩ := ho
  refine ⟨by simp; omega, hc, ⟨_, ty, (0, 0), h1, by simp [hL, bytesV]; omega, ?_⟩⟩
  simp only [List.extract_toArray, List.extract_eq_take_drop, hL, bytesV, Nat.mul_one]
  rw [Nat.add_comm 1 off, List.drop_succ_cons, show off + 1 + n - (off + 1) = n from by omega]
  simp [List.map_take, List.map_drop]

theorem HO.no {H : HV} {r : Nat} {h : Hd} (ho : HO H r h) : RdC H r 0 (.int .i64 h.no) := by
  obtain ⟨ty, h1⟩ := ho
  exact ⟨_, ty, _, h1, by simp [hL]⟩

theorem HO.agg {H : HV} {r : Nat} {h : Hd} (ho : HO H r h) (hl : h.m.length = 24) : RdA H r 0 25 ⟨hL h⟩ := by
  obtain ⟨ty, h1⟩ := ho
  refine ⟨_, ty, _, h1, by simp [hL, bytesV, hl], ?_⟩
  apply Array.toList_inj.mp
  simp only [Array.toList_extract, List.extract_eq_take_drop]
  show hL h = ((hL h).drop 0).take (0 + 25 - 0)
  rw [List.drop_zero, List.take_of_length_le (by simp [hL, bytesV, hl])]

theorem HO.part {H : HV} {r : Nat} {h : Hd} (ho : HO H r h) (off n : Nat) (hl : off + n ≤ h.m.length) : RdA H r (1 + off) n ⟨bytesV ((h.m.drop off).take n)⟩ := by
  obtain ⟨ty, h1⟩ := ho
  refine ⟨_, ty, _, h1, by simp [hL, bytesV]; omega, ?_⟩
  apply Array.toList_inj.mp
  simp only [Array.toList_extract, List.extract_eq_take_drop]
  rw [show 1 + off + n - (1 + off) = n from by omega]
  show _ = ((hL h).drop (1 + off)).take n
  rw [Nat.add_comm 1 off]
  simp [hL, bytesV, List.map_take, List.map_drop]

theorem HO.cell {H : HV} {r : Nat} {h : Hd} (ho : HO H r h) (i : Nat) (hl : i < h.m.length) : RdC H r (1 + i) (.int .u8 (h.m.getD i 0).toNat) := by
  obtain ⟨ty, h1⟩ := ho
  refine ⟨_, ty, _, h1, ?_⟩
  rw [Nat.add_comm]
  simp [hL, bytesV, List.getD, List.getElem?_eq_getElem hl]

theorem setMany_cons (v : Value) : ∀ (xs : List Value) (l : List Value) (off : Nat), setMany (v :: l).toArray (1 + off) xs = (v :: (setMany l.toArray off xs).toList).toArray
  | [], l, off => by simp [setMany]
  | x :: xs, l, off => by
    have e : (v :: l).toArray.setIfInBounds (1 + off) x = (v :: (l.toArray.setIfInBounds off x).toList).toArray := by
      rw [Nat.add_comm]; simp
    simp only [setMany]
    rw [e, show 1 + off + 1 = 1 + (off + 1) from by omega, setMany_cons v xs]

theorem HO.store {H : HV} {r : Nat} {h : Hd} {B : Nat} {M : Nat → Prop} {K : HV → Prop} (ho : HO H r h) (xs : List UInt8) (off : Nat) (hl : off + xs.length ≤ h.m.length) (hM : M r ∨ B ≤ r)
    (hK : ∀ H', (∀ i x, i ≠ r → H i = some x → H' i = some x) → HO H' r ⟨h.no, splice h.m off xs⟩ → K H') : extStore B M H r (1 + off) (bytesV xs) K := by
  obtain ⟨ty, h1⟩ := ho
  have hx : (bytesV xs).length = xs.length := by simp [bytesV]
  refine ⟨_, ty, _, h1, by rw [hx]; simp [hL, bytesV]; omega, .inr (.inl (by show 0 ≤ _; omega)), hM, oneCell_bytes xs, fun H' hU => hK H' hU.old ⟨ty, ?_⟩⟩
  rw [hU.new]
  show some (Obj.cells (setMany (hL h).toArray (1 + off) (bytesV xs)) ty (0, 0)) = _
  rw [show hL h = .int .i64 h.no :: bytesV h.m from rfl, setMany_cons, setMany_bytes xs h.m off hl]
  rfl

theorem oneCell_h (h : Hd) : ∀ v ∈ hL h, v.oneCell' = true := by
  intro v hv
  rcases List.mem_cons.1 hv with rfl | hv
  · rfl
  · exact oneCell_bytes h.m v hv

theorem setMany_all : ∀ (xs l : List Value), xs.length = l.length → setMany l.toArray 0 xs = xs.toArray := by
  have gen : ∀ (xs pre l : List Value), xs.length = l.length → setMany (pre ++ l).toArray pre.length xs = (pre ++ xs).toArray := by
    intro xs
    induction xs with
    | nil => intro pre l hl; have : l = [] := List.length_eq_zero_iff.1 hl.symm; subst this; rfl
    | cons x xs ih =>
      intro pre l hl
      cases l with
      | nil => simp at hl
      | cons y l =>
        have e : (pre ++ y :: l).toArray.setIfInBounds pre.length x = ((pre ++ [x]) ++ l).toArray := by
          simp
        show setMany ((pre ++ y :: l).toArray.setIfInBounds pre.length x) (pre.length + 1) xs = _
        rw [e]
        have := ih (pre ++ [x]) l (by simpa using hl)
        rw [show (pre ++ [x]).length = pre.length + 1 from by simp] at this
        rw [this]; simp
  intro xs l hl
  have := gen xs [] l hl
  simpa using this

/-- all of it is another one -/
theorem HO.put {H : HV} {r : Nat} {h h2 : Hd} {B : Nat} {M : Nat → Prop} {K : HV → Prop} (ho : HO H r h) (hl : h.m.length = h2.m.length) (hM : M r ∨ B ≤ r)
    (hK : ∀ H', (∀ i x, i ≠ r → H i = some x → H' i = some x) → HO H' r h2 → K H') : extStore B M H r 0 (hL h2) K := by
  obtain ⟨ty, h1⟩ := ho
  refine ⟨_, ty, _, h1, by simp [hL, bytesV, hl], .inr (.inl (Nat.le_refl _)), hM, oneCell_h h2, fun H' hU => hK H' hU.old ⟨ty, ?_⟩⟩
  rw [hU.new, setMany_all _ _ (by simp [hL, bytesV, hl])]

theorem HO.cell' {H : HV} {r : Nat} {h : Hd} (ho : HO H r h) (i : Nat) (hl : i < h.m.length) : RdC H r (0 + 1 + (i : Int).toNat * 1) (.int .u8 (h.m.getD i 0).toNat) := by
  have e : 0 + 1 + (i : Int).toNat * 1 = 1 + i := by simp
  rw [e]; exact ho.cell i hl

theorem HO.put1 {H : HV} {r : Nat} {h : Hd} {B : Nat} {M : Nat → Prop} {K : HV → Prop} (ho : HO H r h) (k : Nat) (hk : k < h.m.length) (c : UInt8) {x : Int} (hx : x = (c.toNat : Int)) (hM : M r ∨ B ≤ r)
    (hK : ∀ H', (∀ i x, i ≠ r → H i = some x → H' i = some x) → HO H' r ⟨h.no, h.m.set k c⟩ → K H') : extStore B M H r (0 + 1 + (k : Int).toNat * 1) (cellsOf (.int .u8 x)) K := by
  subst hx
  have e : 0 + 1 + (k : Int).toNat * 1 = 1 + k := by simp
  rw [e]
  exact HO.store ho [c] k (by simp; omega) hM (fun H' h1 h2 => hK H' h1 (by rw [← splice_one h.m k c hk]; exact h2))

theorem HO.cell'' {H : HV} {r : Nat} {h : Hd} (ho : HO H r h) (b i : Nat) (hl : b + i < h.m.length) : RdC H r (0 + (1 + b) + (i : Int).toNat * 1) (.int .u8 (h.m.getD (b + i) 0).toNat) := by
  have e : 0 + (1 + b) + (i : Int).toNat * 1 = 1 + (b + i) := by simp; omega
  rw [e]; exact ho.cell (b + i) hl

theorem HO.put2 {H : HV} {r : Nat} {h : Hd} {B : Nat} {M : Nat → Prop} {K : HV → Prop} (ho : HO H r h) (b k : Nat) (hk : b + k < h.m.length) (c : UInt8) {x : Int} (hx : x = (c.toNat : Int)) (hM : M r ∨ B ≤ r)
    (hK : ∀ H', (∀ i x, i ≠ r → H i = some x → H' i = some x) → HO H' r ⟨h.no, h.m.set (b + k) c⟩ → K H') : extStore B M H r (0 + (1 + b) + (k : Int).toNat * 1) (cellsOf (.int .u8 x)) K := by
  subst hx
  have e : 0 + (1 + b) + (k : Int).toNat * 1 = 1 + (b + k) := by simp; omega
  rw [e]
  exact HO.store ho [c] (b + k) (by simp; omega) hM (fun H' h1 h2 => hK H' h1 (by rw [← splice_one h.m (b + k) c hk]; exact h2))

theorem idx_bytes (l : List UInt8) (i : Nat) (hi : i < l.length) {c : UInt8} (hc : l.getD i 0 = c) : (⟨bytesV l⟩ : Array Value)[(i : Int).toNat * 1]? = some (.int .u8 c.toNat) := by
  subst hc
  simp [bytesV, List.getD, List.getElem?_eq_getElem hi]

theorem bytesV_inj {bs cs : List UInt8} (h : bytesV bs = bytesV cs) : bs = cs := by
  induction bs generalizing cs with
  | nil => cases cs with
    | nil => rfl
    | cons c cs => cases h
  | cons b bs ih => cases cs with
    | nil => cases h
    | cons c cs =>
      simp only [bytesV, List.map_cons, List.cons.injEq] at h
      have h1 : b = c := by
        have := h.1
        simp only [Value.int.injEq, true_and] at this
        exact UInt8.toNat_inj.1 (by omega)
      rw [h1, ih h.2]

theorem HO.blkBS {H : HV} {r : Nat} {h : Hd} (ho : HO H r h) (hm : h.m.length = 24) : BS H (some ⟨r, 0 + 1, none⟩) 16 16 h.blk := ho.bs 0 16 16 (by omega) (by omega)
theorem HO.sltBS {H : HV} {r : Nat} {h : Hd} (ho : HO H r h) (hm : h.m.length = 24) : BS H (some ⟨r, 0 + 17, none⟩) 8 8 h.slt := by
  have := ho.bs 16 8 8 (by omega) (by omega)
  rw [List.take_of_length_le (by simp; omega)] at this
  exact this

theorem BS.full {H : HV} {a : Option Addr} {n c : Nat} {bs : List UInt8} (h : BS H a n c bs) {m : Nat} (hm : m = n) : RdS H 1 m (.slice a n c) (bytesV bs) := by
  have := h.take n (Nat.le_refl n)
  rw [List.take_of_length_le (by rw [h.len]; omega)] at this
  rw [hm]; exact this

theorem idx_vals (f : Int → Value) (l : List Int) (i : Nat) (hi : i < l.length) : (⟨l.map f⟩ : Array Value)[(i : Int).toNat * 1]? = some (f (l.getD i 0)) := by
  simp [List.getD, List.getElem?_eq_getElem hi]

/-- a part of a slice -/
theorem BS.sub {H : HV} {b off n c : Nat} {bs : List UInt8} (h : BS H (some ⟨b, off, none⟩) n c bs) (i j : Nat) (hij : i ≤ j) (hj : j ≤ n) :
    BS H (some ⟨b, if c = i then off else off + i * 1, none⟩) (j - i) (c - i) ((bs.drop i).take (j - i)) := by
  have hl := h.len
  have hle := h.le
  obtain ⟨arr, ty, fr, hb, hl2, he⟩ := h.rd
  refine ⟨by simp; omega, by omega, ?_⟩
  by_cases hc : c = i
  · rw [if_pos hc]
    have e : j - i = 0 := by omega
    rw [e]
    exact ⟨arr, ty, fr, hb, by omega, by simp [bytesV]⟩
  · rw [if_neg hc]
    refine ⟨arr, ty, fr, hb, by omega, ?_⟩
    have : bytesV ((bs.drop i).take (j - i)) = ((bytesV bs).drop i).take (j - i) := by simp [bytesV, List.map_take, List.map_drop]
    rw [this, he]
    simp only [Array.toList_extract, List.extract_eq_take_drop, Nat.add_sub_cancel_left, Nat.mul_one]
    rw [List.drop_take, List.take_take, List.drop_drop]
    congr 1
    omega

theorem BS_nil (H : HV) : BS H none 0 0 [] := ⟨rfl, Nat.le_refl _, rfl⟩

theorem Ext.none {H H' : HV} {r i : Nat} {o : Obj} (h : Ext H H' r o) (hn : H' i = none) : H i = none := by
  cases hh : H i with
  | none => rfl
  | some x => rw [h.old i x hh] at hn; cases hn

theorem HO.known {H : HV} {r : Nat} {h : Hd} (ho : HO H r h) (hm : h.m.length = 24) (l : List LB) : KnownC l H (r, 0, hL h) := by
  obtain ⟨ty, h1⟩ := ho
  refine .inl ⟨_, ty, _, h1, by simp, ?_⟩
  simp

theorem takeV_hL (h : Hd) (hm : h.m.length = 24) : takeV 0 25 (hL h) = some (hL h) := by
  rw [takeV_some _ _ _ (by simp [hL, bytesV, hm])]
  rw [List.drop_zero, List.take_of_length_le (by simp [hL, bytesV, hm])]

/-! ### numbers in memory -/
def intsV (ns : List Int) : List Value := ns.map (fun n => .int .i64 n)

def IO_ (H : HV) (r : Nat) (ns : List Int) : Prop := ∃ ty, H r = some (.cells (intsV ns).toArray ty (0, 0))

theorem intsV_len (ns : List Int) : (intsV ns).length = ns.length := by simp [intsV]

theorem IO_.mono {H H' : HV} {r : Nat} {ns : List Int} (ho : IO_ H r ns) (hs : ∀ o, H r = some o → H' r = some o) : IO_ H' r ns := by
  obtain ⟨ty, h1⟩ := ho
  exact ⟨ty, hs _ h1⟩

theorem IO_.cell {H : HV} {r : Nat} {ns : List Int} (ho : IO_ H r ns) (i : Nat) (hl : i < ns.length) : RdC H r i (.int .i64 (ns.getD i 0)) := by
  obtain ⟨ty, h1⟩ := ho
  refine ⟨_, ty, _, h1, ?_⟩
  simp [intsV, List.getD, List.getElem?_eq_getElem hl]

theorem IO_.part {H : HV} {r : Nat} {ns : List Int} (ho : IO_ H r ns) (off n : Nat) (hl : off + n ≤ ns.length) : RdA H r off n ⟨intsV ((ns.drop off).take n)⟩ := by
  obtain ⟨ty, h1⟩ := ho
  refine ⟨_, ty, _, h1, by simp [intsV]; omega, ?_⟩
  apply Array.toList_inj.mp
  simp only [Array.toList_extract, List.extract_eq_take_drop, Nat.add_sub_cancel_left]
  simp [intsV, List.map_take, List.map_drop]

theorem IO_.all {H : HV} {r : Nat} {ns : List Int} (ho : IO_ H r ns) {n : Nat} (hl : ns.length = n) : RdA H r 0 n ⟨intsV ns⟩ := by
  have := ho.part 0 n (by omega)
  rw [List.drop_zero, List.take_of_length_le (by omega)] at this
  exact this

theorem IO_.rd {H : HV} {r : Nat} {ns : List Int} (ho : IO_ H r ns) (off n c m : Nat) (hl : off + m ≤ ns.length) : RdS H 1 m (.slice (some ⟨r, off, none⟩) n c) (intsV ((ns.drop off).take m)) := by
  obtain ⟨ty, h1⟩ := ho
  refine ⟨_, ty, _, h1, by simp [intsV]; omega, ?_⟩
  simp only [Array.toList_extract, List.extract_eq_take_drop, Nat.mul_one, Nat.add_sub_cancel_left]
  simp [intsV, List.map_take, List.map_drop]

def spliceI (ns : List Int) (off : Nat) (xs : List Int) : List Int := ns.take off ++ xs ++ ns.drop (off + xs.length)

theorem setMany_ints : ∀ (xs ns : List Int) (off : Nat), off + xs.length ≤ ns.length → setMany (intsV ns).toArray off (intsV xs) = (intsV (spliceI ns off xs)).toArray
  | [], ns, off, h => by simp [intsV, setMany, spliceI]
  | x :: xs, ns, off, h => by
    have hlt : off < ns.length := by simp at h; omega
    have e1 : (intsV ns).toArray.setIfInBounds off (.int .i64 x) = (intsV (ns.set off x)).toArray := by
      simp [intsV, List.map_set]
    show setMany ((intsV ns).toArray.setIfInBounds off (.int .i64 x)) (off + 1) (intsV xs) = _
    rw [e1, setMany_ints xs (ns.set off x) (off + 1) (by simp at h ⊢; omega)]
    congr 2
    unfold spliceI
    rw [List.take_set, List.drop_set, if_pos (by omega)]
    have : (ns.take (off + 1)).set off x = ns.take off ++ [x] := by
      rw [List.take_succ_eq_append_getElem hlt]
      rw [List.set_append_right _ _ (by simp; omega)]
      simp [Nat.min_eq_left (Nat.le_of_lt hlt)]
    rw [this]
    simp [Nat.add_assoc, Nat.add_comm 1]

theorem oneCell_ints (xs : List Int) : ∀ v ∈ intsV xs, v.oneCell' = true := by
  intro v hv
  simp only [intsV, List.mem_map] at hv
  obtain ⟨b, _, rfl⟩ := hv
  rfl

theorem IO_.store {H : HV} {r : Nat} {ns : List Int} {B : Nat} {M : Nat → Prop} {K : HV → Prop} (h : IO_ H r ns) (xs : List Int) (off : Nat) (hl : off + xs.length ≤ ns.length) (hM : M r ∨ B ≤ r)
    (hK : ∀ H', (∀ i x, i ≠ r → H i = some x → H' i = some x) → IO_ H' r (spliceI ns off xs) → K H') : extStore B M H r off (intsV xs) K := by
  obtain ⟨ty, h1⟩ := h
  refine ⟨_, ty, _, h1, by simp [intsV]; omega, .inr (.inl (Nat.zero_le _)), hM, oneCell_ints xs, fun H' hU => hK H' hU.old ⟨ty, ?_⟩⟩
  rw [← setMany_ints xs ns off hl]; exact hU.new

theorem KV_ints (ns : List Int) : KV (List.replicate ns.length .i64) (intsV ns) := by
  induction ns with
  | nil => exact .nil
  | cons b bs ih => exact ih.cons

theorem idx_ints (l : List Int) (i : Nat) (hi : i < l.length) : (⟨intsV l⟩ : Array Value)[(i : Int).toNat * 1]? = some (.int .i64 (l.getD i 0)) := idx_vals (fun n => .int .i64 n) l i hi

theorem KnownC.c {H : HV} {b off : Nat} {v : Value} (h : RdC H b off v) (l : List LB) : KnownC l H (b, off, [v]) := by
  obtain ⟨arr, ty, fr, h1, h2⟩ := h
  have hlt := (Array.getElem?_eq_some_iff.1 h2).1
  refine .inl ⟨arr, ty, fr, h1, by simp only [List.length_cons, List.length_nil]; omega, ?_⟩
  obtain ⟨_, h3⟩ := Array.getElem?_eq_some_iff.1 h2
  apply List.ext_getElem
  · simp; omega
  · intro i h4 h5
    simp only [List.length_cons, List.length_nil] at h5
    have : i = 0 := by omega
    subst this
    simp [h3]

theorem IO_.put1 {H : HV} {r : Nat} {ns : List Int} {B : Nat} {M : Nat → Prop} {K : HV → Prop} (h : IO_ H r ns) (k : Nat) (hk : k < ns.length) {x : Int} (hM : M r ∨ B ≤ r)
    (hK : ∀ H', (∀ i x, i ≠ r → H i = some x → H' i = some x) → IO_ H' r (ns.set k x) → K H') : extStore B M H r (0 + (k : Int).toNat * 1) (cellsOf (.int .i64 x)) K := by
  have e : 0 + (k : Int).toNat * 1 = k := by simp
  rw [e]
  refine IO_.store h [x] k (by simp; omega) hM (fun H' h1 h2 => hK H' h1 ?_)
  have : spliceI ns k [x] = ns.set k x := by
    unfold spliceI
    rw [List.set_eq_take_append_cons_drop, if_pos hk]
    simp
  rw [← this]; exact h2

theorem splice_len {bs : List UInt8} {off n L : Nat} {xs : List UInt8} (h : bs.length = L) (hx : xs.length = n) (hl : Nat.ble (off + n) L = true) : (splice bs off xs).length = L := by
  have := Nat.le_of_ble_eq_true hl
  rw [splice_length (by omega)]; exact h

theorem BO.zeros {H : HV} {r n t : Nat} (h : H r = some (.cells (List.replicate n (Value.int .u8 0)).toArray t (0, 0))) : BO H r (List.replicate n 0) := by
  refine ⟨t, (0, 0), ?_, .inl rfl⟩
  rw [h]; simp [bytesV]

theorem BO.put {H : HV} {r : Nat} {bs : List UInt8} (h : BO H r bs) : ∃ o, H r = some o := by
  obtain ⟨_, _, h, _⟩ := h; exact ⟨_, h⟩

theorem str_eq (xs ys : List UInt8) : ((⟨xs.toArray⟩ : ByteArray).toList == (⟨ys.toArray⟩ : ByteArray).toList) = decide (xs = ys) := by
  rw [ByteArray.toList_eq, ByteArray.toList_eq, Bool.eq_iff_iff]
  simp

theorem BS.pre {H : HV} {a : Option Addr} {n c : Nat} {bs : List UInt8} (h : BS H a n c bs) (m : Nat) (hm : m ≤ n) : BS H a m c (bs.take m) := by
  have hl := h.len
  have hle := h.le
  refine ⟨by simp; omega, by omega, ?_⟩
  have := h.take m hm
  cases a with
  | none => exact this
  | some ad =>
    obtain ⟨b, off, sp⟩ := ad
    cases sp with
    | none => exact this
    | some s => exact this

theorem BO.part {H : HV} {r : Nat} {bs : List UInt8} (h : BO H r bs) (off n : Nat) (hl : off + n ≤ bs.length) : RdA H r off n ⟨bytesV ((bs.drop off).take n)⟩ := by
  obtain ⟨ty, fr, h1, h2⟩ := h
  refine ⟨_, ty, fr, h1, by simp [bytesV]; omega, ?_⟩
  apply Array.toList_inj.mp
  simp only [Array.toList_extract, List.extract_eq_take_drop, Nat.add_sub_cancel_left]
  simp [bytesV, List.map_take, List.map_drop]
end Go.Eng
