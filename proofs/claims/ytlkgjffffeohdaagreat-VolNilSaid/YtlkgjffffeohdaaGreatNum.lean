/- Numbers as bytes: what the program's layer 1 computes. -/
import Derived.Test.YtlkgjffffeohdaaGreatGeo
set_option linter.unusedVariables false
set_option linter.unusedSimpArgs false
namespace Go.Proofs.YtlkgjffffeohdaaGreat
open Go Go.Eng Go.Proofs

def yV (a : Option Addr) (n c : Nat) : Value := .slice a n c

theorem zero_ok {H : HV} {a : Option Addr} {n c : Nat} {bs : List UInt8} (w : World) (hs : ∀ i o, H i = some o → w.heap[i]? = some o) (hb : BS H a n c bs) (hn : n < 9223372036854775807) :
    Calls Tryz.prog 261 #[yV a n c] w (RetP (bV (bs.all (· == 0))) w) := by
  have hlen := hb.len
  refine fn_pure (args := [yV a n c]) tabH Tryz.func261 rfl (by kernel_rfl)  hs ?_
  (conv => whnf); repeat first | (refine drw (by decide +kernel) ?_; conv => whnf) | (refine fun (_ : Nat) (_ : _ ≤ _) (_ : _ = none) => ?_; conv => whnf)
  refine VLoop.of (X := Nat) (fun i => [(8, .v (.int .i64 i)), (7, .v (.int .i64 n)), (6, .v (.slice a n c)), (3, .v (.int .u8 ((bs.take i).foldl (· ||| ·) 0).toNat))]) (fun _ => []) (fun _ => H)
    (fun i => i ≤ n) (fun i => n - i) tabH (by kernel_rfl) 0 (Nat.zero_le _) ⟨rfl, rfl, rfl, rfl, trivial⟩ rfl rfl ?_
  intro i hi
  (conv => whnf); repeat first | (refine drw (by decide +kernel) ?_; conv => whnf) | (refine fun (_ : Nat) (_ : _ ≤ _) (_ : _ = none) => ?_; conv => whnf)
  refine vif_dec (fun h1 => ?_) (fun h1 => ?_)
  · have hlt : i < n := by omega
    obtain ⟨b, off, rfl⟩ := hb.nonempty (by omega)
    (conv => whnf); repeat first | (refine drw (by decide +kernel) ?_; conv => whnf) | (refine fun (_ : Nat) (_ : _ ≤ _) (_ : _ = none) => ?_; conv => whnf)
    refine ⟨⟨by omega, by omega⟩, ?_⟩
    (conv => whnf); repeat first | (refine drw (by decide +kernel) ?_; conv => whnf) | (refine fun (_ : Nat) (_ : _ ≤ _) (_ : _ = none) => ?_; conv => whnf)
    refine ⟨_, hb.get i hlt, ?_⟩
    (conv => whnf); repeat first | (refine drw (by decide +kernel) ?_; conv => whnf) | (refine fun (_ : Nat) (_ : _ ≤ _) (_ : _ = none) => ?_; conv => whnf)
    refine ⟨i + 1, by omega, by omega, ⟨?_, rfl, rfl, ?_, trivial⟩, rfl, rfl⟩
    · show some (SV.v (.int .i64 (IntKind.wrap .i64 ((i : Int) + 1)))) = _
      rw [wrap64 (by omega)]; rfl
    · show some (SV.v (.int .u8 (bitI .or .u8 _ _))) = _
      rw [(bitI_u8 _ _).1, take_succ_foldl bs i (by omega)]
  · (conv => whnf); repeat first | (refine drw (by decide +kernel) ?_; conv => whnf) | (refine fun (_ : Nat) (_ : _ ≤ _) (_ : _ = none) => ?_; conv => whnf)
    have : i = n := by omega
    subst this
    rw [← hlen, List.take_length]
    have h2 := foldl_or_zero bs 0
    have h3 : decide (((bs.foldl (· ||| ·) 0).toNat : Int) = 0) = (bs.foldl (· ||| ·) 0 == 0) := by
      generalize bs.foldl (· ||| ·) 0 = x
      by_cases hx : x = 0
      · subst hx; rfl
      · have : ¬ (x.toNat : Int) = 0 := fun h => hx (UInt8.toNat_inj.1 (by simpa using h))
        rw [decide_eq_false this]; simpa using hx
    unfold bV
    rw [h3, h2]
    rfl

theorem nwithin_ok (a : Option Addr) (l c : Nat) (from_ n : Int) (w : World) (hl : l < 4611686018427387904) :
    Calls Tryz.prog 273 #[yV a l c, iV from_, iV n] w (RetP (bV (decide (0 ≤ from_ ∧ 0 ≤ n ∧ from_ + n ≤ l))) w) := by
  refine fn_pure (H0 := (fun _ => none)) (args := [yV a l c, iV from_, iV n]) tabH Tryz.func273 rfl (by kernel_rfl)  (fun _ _ h => by cases h) ?_
  have no : ¬ (0 ≤ from_ ∧ 0 ≤ n ∧ from_ + n ≤ l) → bV (decide (0 ≤ from_ ∧ 0 ≤ n ∧ from_ + n ≤ l)) = .bool false := fun h => by simp [bV, h]
  (conv => whnf); repeat first | (refine drw (by decide +kernel) ?_; conv => whnf) | (refine fun (_ : Nat) (_ : _ ≤ _) (_ : _ = none) => ?_; conv => whnf)
  refine vif_dec (fun h1 => ?_) (fun h1 => ?_)
  · (conv => whnf); repeat first | (refine drw (by decide +kernel) ?_; conv => whnf) | (refine fun (_ : Nat) (_ : _ ≤ _) (_ : _ = none) => ?_; conv => whnf)
    refine vif_dec (fun h2 => ?_) (fun h2 => ?_)
    · (conv => whnf); repeat first | (refine drw (by decide +kernel) ?_; conv => whnf) | (refine fun (_ : Nat) (_ : _ ≤ _) (_ : _ = none) => ?_; conv => whnf)
      refine vif_dec (fun h3 => ?_) (fun h3 => ?_)
      · (conv => whnf); repeat first | (refine drw (by decide +kernel) ?_; conv => whnf) | (refine fun (_ : Nat) (_ : _ ≤ _) (_ : _ = none) => ?_; conv => whnf)
        rw [wrap64 (by omega)]
        exact congrArg Value.bool (decide_eq_decide.2 ⟨fun h => by omega, fun h => by omega⟩)
      · (conv => whnf); repeat first | (refine drw (by decide +kernel) ?_; conv => whnf) | (refine fun (_ : Nat) (_ : _ ≤ _) (_ : _ = none) => ?_; conv => whnf)
        rw [no (by omega)]
    · (conv => whnf); repeat first | (refine drw (by decide +kernel) ?_; conv => whnf) | (refine fun (_ : Nat) (_ : _ ≤ _) (_ : _ = none) => ?_; conv => whnf)
      rw [no (by omega)]
  · (conv => whnf); repeat first | (refine drw (by decide +kernel) ?_; conv => whnf) | (refine fun (_ : Nat) (_ : _ ≤ _) (_ : _ = none) => ?_; conv => whnf)
    rw [no (by omega)]


def uV (n : Nat) : Value := .int .u64 n

theorem nput_ok {H : HV} {r off n c : Nat} {bs : List UInt8} (v : Nat) (w : World) (hs : ∀ i o, H i = some o → w.heap[i]? = some o) (hb : BO H r bs) (hl : off + n ≤ bs.length) (hn : n < 9223372036854775807) (hv : v < 18446744073709551616) :
    Calls Tryz.prog 177 #[yV (some ⟨r, off, none⟩) n c, uV v] w (Ret H (fun i => i = r) (fun x H1 => x = .tuple #[] ∧ BO H1 r (splice bs off (leB n v))) w) := by
  refine fn_ret (args := [yV (some ⟨r, off, none⟩) n c, uV v]) tabH Tryz.func177 rfl (by kernel_rfl)  hs ?_
  (conv => whnf); repeat first | (refine drw (by decide +kernel) ?_; conv => whnf) | (refine fun (_ : Nat) (_ : _ ≤ _) (_ : _ = none) => ?_; conv => whnf)
  refine VLoop.of (X := Nat × HV) (fun x => [(7, .v (.int .i64 x.1)), (6, .v (.int .i64 n)), (0, .v (.slice (some ⟨r, off, none⟩) n c)), (1, .v (.int .u64 (v / 256 ^ x.1 : Nat)))]) (fun _ => []) (fun x => x.2)
    (fun x => x.1 ≤ n ∧ BO x.2 r (splice bs off (leB x.1 v))) (fun x => n - x.1) tabH (by kernel_rfl) (0, H) ⟨Nat.zero_le _, by simpa [splice, leB] using hb⟩ ⟨rfl, rfl, rfl, ?_, trivial⟩ rfl rfl ?_
  · show some (SV.v (.int .u64 v)) = _
    simp
  intro x hi
  obtain ⟨hin, hbo⟩ := hi
  have hll := leB_length x.1 v
  (conv => whnf); repeat first | (refine drw (by decide +kernel) ?_; conv => whnf) | (refine fun (_ : Nat) (_ : _ ≤ _) (_ : _ = none) => ?_; conv => whnf)
  refine vif_dec (fun h1 => ?_) (fun h1 => ?_)
  · (conv => whnf); repeat first | (refine drw (by decide +kernel) ?_; conv => whnf) | (refine fun (_ : Nat) (_ : _ ≤ _) (_ : _ = none) => ?_; conv => whnf)
    refine ⟨⟨by omega, by omega⟩, ?_⟩
    (conv => whnf); repeat first | (refine drw (by decide +kernel) ?_; conv => whnf) | (refine fun (_ : Nat) (_ : _ ≤ _) (_ : _ = none) => ?_; conv => whnf)
    have hx : IntKind.u8.wrap ((v / 256 ^ x.1 : Nat) : Int) = ((UInt8.ofNat (v / 256 ^ x.1)).toNat : Int) := wrap_u8 _
    have e : off + (x.1 : Int).toNat * 1 = off + x.1 := by simp
    rw [hx]
    refine ⟨rfl, BO.store hbo [UInt8.ofNat (v / 256 ^ x.1)] _ (by show off + (x.1 : Int).toNat * 1 + 1 ≤ _; rw [e, splice_length (by omega)]; omega) (.inl rfl) ?_⟩
    intro H1 hk1 hb1
    (conv => whnf); repeat first | (refine drw (by decide +kernel) ?_; conv => whnf) | (refine fun (_ : Nat) (_ : _ ≤ _) (_ : _ = none) => ?_; conv => whnf)
    refine ⟨by decide, ?_⟩
    (conv => whnf); repeat first | (refine drw (by decide +kernel) ?_; conv => whnf) | (refine fun (_ : Nat) (_ : _ ≤ _) (_ : _ = none) => ?_; conv => whnf)
    refine ⟨(x.1 + 1, H1), ⟨by dsimp only; omega, ?_⟩, by dsimp only; omega, ⟨?_, rfl, rfl, ?_, trivial⟩, rfl, rfl⟩
    · rw [leB_succ, ← splice_succ (by omega), hll, ← e]; exact hb1
    · show some (SV.v (.int .i64 (IntKind.wrap .i64 ((x.1 : Int) + 1)))) = _
      rw [wrap64 (by omega)]; rfl
    · show some (SV.v (.int .u64 (((v / 256 ^ x.1 : Nat) : Int).fdiv (2 ^ 8)))) = _
      rw [fdiv_nat, Nat.div_div_eq_div_mul, ← Nat.pow_succ]
  · (conv => whnf); repeat first | (refine drw (by decide +kernel) ?_; conv => whnf) | (refine fun (_ : Nat) (_ : _ ≤ _) (_ : _ = none) => ?_; conv => whnf)
    have : x.1 = n := by omega
    exact ⟨rfl, by rw [← this]; exact hbo⟩

theorem nput_ok' {H : HV} {r off n c off2 n2 : Nat} {bs : List UInt8} {x : Int} (v : Nat) (w : World) (hs : ∀ i o, H i = some o → w.heap[i]? = some o) (hb : BO H r bs) (ho : off = off2) (hn2 : n = n2) (hx : x = (v : Int)) (hl : off2 + n2 ≤ bs.length) (hn : n2 < 9223372036854775807) (hv : v < 18446744073709551616) :
    Calls Tryz.prog 177 #[yV (some ⟨r, off, none⟩) n c, .int .u64 x] w (Ret H (fun i => i = r) (fun x H1 => x = .tuple #[] ∧ BO H1 r (splice bs off2 (leB n2 v))) w) := by
  subst ho; subst hn2; subst hx
  exact nput_ok v w hs hb hl hn hv

theorem nget_ok {H : HV} {a : Option Addr} {n c : Nat} {bs : List UInt8} (w : World) (hs : ∀ i o, H i = some o → w.heap[i]? = some o) (hb : BS H a n c bs) (hn : n ≤ 8) :
    Calls Tryz.prog 221 #[yV a n c] w (RetP (uV (leN bs)) w) := by
  have hlen := hb.len
  refine fn_pure (args := [yV a n c]) tabH Tryz.func221 rfl (by kernel_rfl)  hs ?_
  (conv => whnf); repeat first | (refine drw (by decide +kernel) ?_; conv => whnf) | (refine fun (_ : Nat) (_ : _ ≤ _) (_ : _ = none) => ?_; conv => whnf)
  have hmin : minInt n 8 = n := by unfold minInt; split <;> omega
  rw [hmin]
  refine VLoop.of (X := Nat) (fun i => [(8, .v (.int .i64 i)), (7, .v (.int .i64 n)), (0, .v (.slice a n c)), (3, .v (.int .u64 (leN (bs.take i))))]) (fun _ => []) (fun _ => H)
    (fun i => i ≤ n) (fun i => n - i) tabH (by kernel_rfl) 0 (Nat.zero_le _) ⟨rfl, rfl, rfl, rfl, trivial⟩ rfl rfl ?_
  intro i hi
  (conv => whnf); repeat first | (refine drw (by decide +kernel) ?_; conv => whnf) | (refine fun (_ : Nat) (_ : _ ≤ _) (_ : _ = none) => ?_; conv => whnf)
  refine vif_dec (fun h1 => ?_) (fun h1 => ?_)
  · have hlt : i < n := by omega
    obtain ⟨b, off, rfl⟩ := hb.nonempty (by omega)
    (conv => whnf); repeat first | (refine drw (by decide +kernel) ?_; conv => whnf) | (refine fun (_ : Nat) (_ : _ ≤ _) (_ : _ = none) => ?_; conv => whnf)
    refine ⟨⟨by omega, by omega⟩, ?_⟩
    (conv => whnf); repeat first | (refine drw (by decide +kernel) ?_; conv => whnf) | (refine fun (_ : Nat) (_ : _ ≤ _) (_ : _ = none) => ?_; conv => whnf)
    refine ⟨_, hb.get i hlt, ?_⟩
    (conv => whnf); repeat first | (refine drw (by decide +kernel) ?_; conv => whnf) | (refine fun (_ : Nat) (_ : _ ≤ _) (_ : _ = none) => ?_; conv => whnf)
    have e8 : IntKind.wrap .i64 (8 * (i : Int)) = 8 * i := wrap64 (by omega)
    rw [e8]
    refine ⟨by omega, ?_⟩
    (conv => whnf); repeat first | (refine drw (by decide +kernel) ?_; conv => whnf) | (refine fun (_ : Nat) (_ : _ ≤ _) (_ : _ = none) => ?_; conv => whnf)
    refine ⟨i + 1, by omega, by omega, ⟨?_, rfl, rfl, ?_, trivial⟩, rfl, rfl⟩
    · show some (SV.v (.int .i64 (IntKind.wrap .i64 ((i : Int) + 1)))) = _
      rw [wrap64 (by omega)]; rfl
    · show some (SV.v (.int .u64 (bitI .or .u64 (leN (bs.take i)) (IntKind.u64.wrap (IntKind.u64.wrap (bs.getD i 0).toNat * 2 ^ min (8 * (i : Int)).toNat 64))))) = _
      have h2 := leN_lt (bs.take i)
      rw [List.length_take, Nat.min_eq_left (by omega)] at h2
      rw [or_step (by omega) h2 (bs.getD i 0).toNat_lt, take_succ_leN bs i (by omega)]
  · (conv => whnf); repeat first | (refine drw (by decide +kernel) ?_; conv => whnf) | (refine fun (_ : Nat) (_ : _ ≤ _) (_ : _ = none) => ?_; conv => whnf)
    have : i = n := by omega
    subst this
    rw [← hlen, List.take_length]
    rfl

def nilS : Value := .slice none 0 0
/-- a slice of a whole new block -/
def fresh (r n : Nat) : Value := .slice (some ⟨r, 0, none⟩) n n

theorem nlay_ok {H : HV} {a a2 : Option Addr} {n c n2 c2 : Nat} {bs xs : List UInt8} (from_ : Int) (w : World) (hs : ∀ i o, H i = some o → w.heap[i]? = some o) (hb : BS H a n c bs) (hx : BS H a2 n2 c2 xs)
    (hn : n < 281474976710656) :
    Calls Tryz.prog 218 #[yV a n c, iV from_, yV a2 n2 c2] w (Ret H (fun _ => False) (fun v H1 =>
      Is (if 0 ≤ from_ ∧ from_ + n2 ≤ n then ∃ r, v = .tuple #[fresh r n, iV 0] ∧ H r = none ∧ BO H1 r (splice bs from_.toNat xs) else v = .tuple #[nilS, iV 3])) w) := by
  have hlen := hb.len
  have hlen2 := hx.len
  refine fn_ret (args := [yV a n c, iV from_, yV a2 n2 c2]) tabH Tryz.func218 rfl (by kernel_rfl)  hs ?_
  (conv => whnf); repeat first | (refine drw (by decide +kernel) ?_; conv => whnf) | (refine fun (_ : Nat) (_ : _ ≤ _) (_ : _ = none) => ?_; conv => whnf)
  (refine VCall.pure_ (by kernel_rfl) (fun w hs => nwithin_ok _ _ _ _ _ w (by omega)) ?_); (conv => whnf); repeat first | (refine drw (by decide +kernel) ?_; conv => whnf) | (refine fun (_ : Nat) (_ : _ ≤ _) (_ : _ = none) => ?_; conv => whnf)
  refine vif_not (fun h1 => ?_) (fun h1 => ?_)
  · (conv => whnf); repeat first | (refine drw (by decide +kernel) ?_; conv => whnf) | (refine fun (_ : Nat) (_ : _ ≤ _) (_ : _ = none) => ?_; conv => whnf)
    exact ⟨by rw [if_neg (by omega)]; rfl⟩
  · (conv => whnf); repeat first | (refine drw (by decide +kernel) ?_; conv => whnf) | (refine fun (_ : Nat) (_ : _ ≤ _) (_ : _ = none) => ?_; conv => whnf)
    refine ⟨⟨by omega, by omega, by omega, by show (1 : Int) * n ≤ _; omega⟩, ?_⟩
    intro r H1 hB hN hE
    (conv => whnf); repeat first | (refine drw (by decide +kernel) ?_; conv => whnf) | (refine fun (_ : Nat) (_ : _ ≤ _) (_ : _ = none) => ?_; conv => whnf)
    have hb0 : BO H1 r (List.replicate n 0) := bo_made hE.new
    have hb1 := hb.mono hE.old
    have e1 : min n (n : Int).toNat = n := by simp
    refine ⟨bytesV (bs.take (min n (n : Int).toNat)), hb1.take _ (by omega), ?_⟩
    have e2 : bs.take (min n (n : Int).toNat) = bs := by rw [e1, ← hlen, List.take_length]
    rw [e2]
    refine BO.store hb0 bs 0 (by simp; omega) (.inr hB) ?_
    intro H2 hk2 hb2
    have hsub2 : Sub H H2 := fun i o hi => hk2 i o (fun e => by subst e; rw [hN] at hi; cases hi) (hE.old i o hi)
    (conv => whnf); repeat first | (refine drw (by decide +kernel) ?_; conv => whnf) | (refine fun (_ : Nat) (_ : _ ≤ _) (_ : _ = none) => ?_; conv => whnf)
    refine ⟨⟨by omega, by simp; omega⟩, ?_⟩
    (conv => whnf); repeat first | (refine drw (by decide +kernel) ?_; conv => whnf) | (refine fun (_ : Nat) (_ : _ ≤ _) (_ : _ = none) => ?_; conv => whnf)
    have hx2 := hx.mono hsub2
    have e3 : xs.take (min n2 ((n : Int).toNat - from_.toNat)) = xs := by rw [Nat.min_eq_left (by simp; omega), ← hlen2, List.take_length]
    refine ⟨bytesV (xs.take (min n2 ((n : Int).toNat - from_.toNat))), hx2.take _ (by omega), ?_⟩
    rw [e3]
    have hb0' : BO H2 r bs := by
      have : splice (List.replicate n 0) 0 bs = bs := by simp [splice, hlen]
      rw [← this]; exact hb2
    refine BO.store hb0' xs _ ?_ (.inr hB) ?_
    · split <;> rename_i hq <;> simp at hq ⊢ <;> omega
    intro H3 hk3 hb3
    (conv => whnf); repeat first | (refine drw (by decide +kernel) ?_; conv => whnf) | (refine fun (_ : Nat) (_ : _ ≤ _) (_ : _ = none) => ?_; conv => whnf)
    refine ⟨?_⟩
    rw [if_pos (by omega)]
    refine ⟨r, rfl, hN, ?_⟩
    split at hb3
    · rename_i hq
      have : xs = [] := List.length_eq_zero_iff.1 (by simp at hq; omega)
      subst this
      have e4 : splice bs from_.toNat [] = splice bs 0 [] := by simp [splice]
      rw [e4]; exact hb3
    · have e4 : 0 + from_.toNat * 1 = from_.toNat := by omega
      rw [← e4]; exact hb3

theorem ndiff_ok {H : HV} {a a2 : Option Addr} {n c n2 c2 : Nat} {bs xs : List UInt8} (w : World) (hs : ∀ i o, H i = some o → w.heap[i]? = some o) (hb : BS H a n c bs) (hx : BS H a2 n2 c2 xs)
    (hn : n < 4611686018427387904) (hn2 : n2 < 4611686018427387904) :
    Calls Tryz.prog 222 #[yV a n c, yV a2 n2 c2] w (RetP (v2 (diffS bs xs (max n n2))) w) := by
  have hlen := hb.len
  have hlen2 := hx.len
  refine fn_pure (args := [yV a n c, yV a2 n2 c2]) tabH Tryz.func222 rfl (by kernel_rfl)  hs ?_
  (conv => whnf); repeat first | (refine drw (by decide +kernel) ?_; conv => whnf) | (refine fun (_ : Nat) (_ : _ ≤ _) (_ : _ = none) => ?_; conv => whnf)
  have hmax : maxInt n n2 = ((max n n2 : Nat) : Int) := by unfold maxInt; split <;> omega
  rw [hmax]
  refine VLoop.of (X := Nat) (fun i => [(14, .v (.int .i64 i)), (13, .v (.int .i64 (max n n2 : Nat))), (0, .v (yV a n c)), (1, .v (yV a2 n2 c2)), (6, .v (iV (diffS bs xs i).1)), (7, .v (iV (diffS bs xs i).2))]) (fun _ => []) (fun _ => H)
    (fun i => i ≤ max n n2) (fun i => max n n2 - i) tabH (by kernel_rfl) 0 (Nat.zero_le _) ⟨rfl, rfl, rfl, rfl, rfl, rfl, trivial⟩ rfl rfl ?_
  intro i hi
  have hd := diffS_small bs xs i
  (conv => whnf); repeat first | (refine drw (by decide +kernel) ?_; conv => whnf) | (refine fun (_ : Nat) (_ : _ ≤ _) (_ : _ = none) => ?_; conv => whnf)
  refine vif_dec (fun h1 => ?_) (fun h1 => ?_)
  · (conv => whnf); repeat first | (refine drw (by decide +kernel) ?_; conv => whnf) | (refine fun (_ : Nat) (_ : _ ≤ _) (_ : _ = none) => ?_; conv => whnf)
    have hmin : minInt n n2 = ((min n n2 : Nat) : Int) := by unfold minInt; split <;> omega
    rw [hmin]
    have nx : IntKind.wrap .i64 ((i : Int) + 1) = ((i + 1 : Nat) : Int) := by rw [wrap64 (by omega)]; rfl
    refine vif_dec (fun h2 => ?_) (fun h2 => ?_)
    · obtain ⟨b, off, rfl⟩ := hb.nonempty (by omega)
      obtain ⟨b2, off2, rfl⟩ := hx.nonempty (by omega)
      (conv => whnf); repeat first | (refine drw (by decide +kernel) ?_; conv => whnf) | (refine fun (_ : Nat) (_ : _ ≤ _) (_ : _ = none) => ?_; conv => whnf)
      refine ⟨⟨by omega, by omega⟩, ?_⟩
      (conv => whnf); repeat first | (refine drw (by decide +kernel) ?_; conv => whnf) | (refine fun (_ : Nat) (_ : _ ≤ _) (_ : _ = none) => ?_; conv => whnf)
      refine ⟨_, hb.get i (by omega), ?_⟩
      (conv => whnf); repeat first | (refine drw (by decide +kernel) ?_; conv => whnf) | (refine fun (_ : Nat) (_ : _ ≤ _) (_ : _ = none) => ?_; conv => whnf)
      refine ⟨⟨by omega, by omega⟩, ?_⟩
      (conv => whnf); repeat first | (refine drw (by decide +kernel) ?_; conv => whnf) | (refine fun (_ : Nat) (_ : _ ≤ _) (_ : _ = none) => ?_; conv => whnf)
      refine ⟨_, hx.get i (by omega), ?_⟩
      (conv => whnf); repeat first | (refine drw (by decide +kernel) ?_; conv => whnf) | (refine fun (_ : Nat) (_ : _ ≤ _) (_ : _ = none) => ?_; conv => whnf)
      refine vif_dec (fun h3 => ?_) (fun h3 => ?_)
      · (conv => whnf); repeat first | (refine drw (by decide +kernel) ?_; conv => whnf) | (refine fun (_ : Nat) (_ : _ ≤ _) (_ : _ = none) => ?_; conv => whnf)
        have e : diffS bs xs (i + 1) = diffS bs xs i := by
          rw [diffS, if_pos ⟨by omega, by omega, UInt8.toNat_inj.1 (by omega)⟩]
        refine ⟨i + 1, by omega, by omega, ⟨?_, rfl, rfl, rfl, ?_, ?_, trivial⟩, rfl, rfl⟩
        · exact congrArg (fun n => some (SV.v (.int .i64 n))) nx
        · rw [e]; rfl
        · rw [e]; rfl
      · (conv => whnf); repeat first | (refine drw (by decide +kernel) ?_; conv => whnf) | (refine fun (_ : Nat) (_ : _ ≤ _) (_ : _ = none) => ?_; conv => whnf)
        have e : diffS bs xs (i + 1) = (if (diffS bs xs i).1 < 0 then (i : Int) else (diffS bs xs i).1, (i : Int) + 1) := by
          rw [diffS, if_neg (fun h => h3 (by rw [h.2.2]))]
        refine vif_dec (fun h4 => ?_) (fun h4 => ?_)
        · (conv => whnf); repeat first | (refine drw (by decide +kernel) ?_; conv => whnf) | (refine fun (_ : Nat) (_ : _ ≤ _) (_ : _ = none) => ?_; conv => whnf)
          refine ⟨i + 1, by omega, by omega, ⟨congrArg (fun n => some (SV.v (.int .i64 n))) nx, rfl, rfl, rfl, ?_, ?_, trivial⟩, rfl, rfl⟩
          · rw [e, if_pos h4]; rfl
          · rw [e]; exact congrArg (fun n => some (SV.v (.int .i64 n))) (wrap64 (by omega))
        · (conv => whnf); repeat first | (refine drw (by decide +kernel) ?_; conv => whnf) | (refine fun (_ : Nat) (_ : _ ≤ _) (_ : _ = none) => ?_; conv => whnf)
          refine ⟨i + 1, by omega, by omega, ⟨congrArg (fun n => some (SV.v (.int .i64 n))) nx, rfl, rfl, rfl, ?_, ?_, trivial⟩, rfl, rfl⟩
          · rw [e, if_neg h4]; rfl
          · rw [e]; exact congrArg (fun n => some (SV.v (.int .i64 n))) (wrap64 (by omega))
    · (conv => whnf); repeat first | (refine drw (by decide +kernel) ?_; conv => whnf) | (refine fun (_ : Nat) (_ : _ ≤ _) (_ : _ = none) => ?_; conv => whnf)
      have e : diffS bs xs (i + 1) = (if (diffS bs xs i).1 < 0 then (i : Int) else (diffS bs xs i).1, (i : Int) + 1) := by
        rw [diffS, if_neg (fun h => h2 (by omega))]
      refine vif_dec (fun h4 => ?_) (fun h4 => ?_)
      · (conv => whnf); repeat first | (refine drw (by decide +kernel) ?_; conv => whnf) | (refine fun (_ : Nat) (_ : _ ≤ _) (_ : _ = none) => ?_; conv => whnf)
        refine ⟨i + 1, by omega, by omega, ⟨congrArg (fun n => some (SV.v (.int .i64 n))) nx, rfl, rfl, rfl, ?_, ?_, trivial⟩, rfl, rfl⟩
        · rw [e, if_pos h4]; rfl
        · rw [e]; exact congrArg (fun n => some (SV.v (.int .i64 n))) (wrap64 (by omega))
      · (conv => whnf); repeat first | (refine drw (by decide +kernel) ?_; conv => whnf) | (refine fun (_ : Nat) (_ : _ ≤ _) (_ : _ = none) => ?_; conv => whnf)
        refine ⟨i + 1, by omega, by omega, ⟨congrArg (fun n => some (SV.v (.int .i64 n))) nx, rfl, rfl, rfl, ?_, ?_, trivial⟩, rfl, rfl⟩
        · rw [e, if_neg h4]; rfl
        · rw [e]; exact congrArg (fun n => some (SV.v (.int .i64 n))) (wrap64 (by omega))
  · (conv => whnf); repeat first | (refine drw (by decide +kernel) ?_; conv => whnf) | (refine fun (_ : Nat) (_ : _ ≤ _) (_ : _ = none) => ?_; conv => whnf)
    have : i = max n n2 := by omega
    rw [← this]; rfl
end Go.Proofs.YtlkgjffffeohdaaGreat
