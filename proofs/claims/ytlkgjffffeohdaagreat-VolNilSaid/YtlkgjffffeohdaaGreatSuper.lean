/- Superblocks. -/
import Derived.Test.YtlkgjffffeohdaaGreatSum
set_option linter.unusedVariables false
set_option linter.unusedSimpArgs false
namespace Go.Proofs.YtlkgjffffeohdaaGreat
open Go Go.Eng Go.Proofs

structure Sp where
  gen : Int
  g : G
deriving DecidableEq

def sV (s : Sp) : Value := .agg #[.int .i64 s.gen, .int .i64 s.g.gr, .int .i64 s.g.inn, .int .i64 s.g.gs]
def sZ : Sp := ⟨0, gZ⟩
def Sp.ok (s : Sp) : Prop := 1 ≤ s.gen ∧ s.gen ≤ 4611686018427387904 ∧ s.g.ok
instance (s : Sp) : Decidable s.ok := by unfold Sp.ok; infer_instance

theorem sright_ok (s : Sp) (w : World) : Calls Tryz.prog 176 #[sV s] w (RetP (bV (decide s.ok)) w) := by
  refine fn_pure (H0 := (fun _ => none)) (args := [sV s]) tabH Tryz.func176 rfl (by kernel_rfl)  (fun _ _ h => by cases h) ?_
  have no : ¬ s.ok → bV (decide s.ok) = .bool false := fun h => by rw [decide_eq_false h]; rfl
  (conv => whnf); repeat first | (refine drw (by decide +kernel) ?_; conv => whnf) | (refine fun (_ : Nat) (_ : _ ≤ _) (_ : _ = none) => ?_; conv => whnf)
  refine vif_dec (fun h1 => ?_) (fun h1 => ?_)
  · (conv => whnf); repeat first | (refine drw (by decide +kernel) ?_; conv => whnf) | (refine fun (_ : Nat) (_ : _ ≤ _) (_ : _ = none) => ?_; conv => whnf)
    refine vif_dec (fun h2 => ?_) (fun h2 => ?_)
    · (conv => whnf); repeat first | (refine drw (by decide +kernel) ?_; conv => whnf) | (refine fun (_ : Nat) (_ : _ ≤ _) (_ : _ = none) => ?_; conv => whnf)
      (refine VCall.pure_ (by kernel_rfl) (fun w hs => gright_ok s.g w) ?_); (conv => whnf); repeat first | (refine drw (by decide +kernel) ?_; conv => whnf) | (refine fun (_ : Nat) (_ : _ ≤ _) (_ : _ = none) => ?_; conv => whnf)
      exact congrArg Value.bool (decide_eq_decide.2 ⟨fun h => ⟨h1, h2, h⟩, fun h => h.2.2⟩)
    · (conv => whnf); repeat first | (refine drw (by decide +kernel) ?_; conv => whnf) | (refine fun (_ : Nat) (_ : _ ≤ _) (_ : _ = none) => ?_; conv => whnf)
      rw [no (fun h => h2 h.2.1)]
  · (conv => whnf); repeat first | (refine drw (by decide +kernel) ?_; conv => whnf) | (refine fun (_ : Nat) (_ : _ ≤ _) (_ : _ = none) => ?_; conv => whnf)
    rw [no (fun h => h1 h.1)]

theorem splace_ok (s : Sp) (w : World) : Calls Tryz.prog 191 #[sV s] w (RetP (iV (s.gen.tmod 2)) w) := by
  refine fn_pure (H0 := (fun _ => none)) (args := [sV s]) tabH Tryz.func191 rfl (by kernel_rfl)  (fun _ _ h => by cases h) ?_
  (conv => whnf); repeat first | (refine drw (by decide +kernel) ?_; conv => whnf) | (refine fun (_ : Nat) (_ : _ ≤ _) (_ : _ = none) => ?_; conv => whnf)
  refine ⟨by decide, ?_⟩
  (conv => whnf); repeat first | (refine drw (by decide +kernel) ?_; conv => whnf) | (refine fun (_ : Nat) (_ : _ ≤ _) (_ : _ = none) => ?_; conv => whnf)
  rfl

/-- a superblock's bytes, piece by piece -/
def sup0 : List UInt8 := splice (List.replicate 256 0) 0 [76, 86, 69, 69]
def sup1 (s : Sp) : List UInt8 := splice sup0 4 (leB 8 s.gen.toNat)
def sup2 (s : Sp) : List UInt8 := splice (sup1 s) 12 (leB 2 s.g.gr.toNat)
def sup3 (s : Sp) : List UInt8 := splice (sup2 s) 14 (leB 2 s.g.inn.toNat)
def sup4 (s : Sp) : List UInt8 := splice (sup3 s) 16 (leB 2 s.g.gs.toNat)
def supB (s : Sp) : List UInt8 := splice (sup4 s) 252 (leB 4 (sumB ((sup4 s).take 252)).toNat)

theorem sup0_len : sup0.length = 256 := splice_len (List.length_replicate ..) rfl rfl
theorem sup1_len (s : Sp) : (sup1 s).length = 256 := splice_len sup0_len (leB_length ..) rfl
theorem sup2_len (s : Sp) : (sup2 s).length = 256 := splice_len (sup1_len s) (leB_length ..) rfl
theorem sup3_len (s : Sp) : (sup3 s).length = 256 := splice_len (sup2_len s) (leB_length ..) rfl
theorem sup4_len (s : Sp) : (sup4 s).length = 256 := splice_len (sup3_len s) (leB_length ..) rfl
theorem supB_len (s : Sp) : (supB s).length = 256 := splice_len (sup4_len s) (leB_length ..) rfl

theorem sput_ok {H : HV} (s : Sp) (w : World) (hs : ∀ i o, H i = some o → w.heap[i]? = some o) : Calls Tryz.prog 89 #[sV s] w (Ret H (fun _ => False) (fun v H1 => Is (
    if s.ok then ∃ r, v = .tuple #[fresh r 256, iV 0] ∧ H r = none ∧ BO H1 r (supB s) else v = .tuple #[nilS, iV 1])) w) := by
  refine fn_ret (args := [sV s]) tabH Tryz.func89 rfl (by kernel_rfl)  hs ?_
  (conv => whnf); repeat first | (refine drw (by decide +kernel) ?_; conv => whnf) | (refine fun (_ : Nat) (_ : _ ≤ _) (_ : _ = none) => ?_; conv => whnf)
  (refine VCall.pure_ (by kernel_rfl) (fun w hs => sright_ok s w) ?_); (conv => whnf); repeat first | (refine drw (by decide +kernel) ?_; conv => whnf) | (refine fun (_ : Nat) (_ : _ ≤ _) (_ : _ = none) => ?_; conv => whnf)
  refine vif_not (fun h1 => ?_) (fun h1 => ?_)
  · (conv => whnf); repeat first | (refine drw (by decide +kernel) ?_; conv => whnf) | (refine fun (_ : Nat) (_ : _ ≤ _) (_ : _ = none) => ?_; conv => whnf)
    exact ⟨by rw [if_neg h1]; rfl⟩
  · have hk := (gok_iff s.g).1 h1.2.2
    have hg1 := h1.1
    have hg2 := h1.2.1
    (conv => whnf); repeat first | (refine drw (by decide +kernel) ?_; conv => whnf) | (refine fun (_ : Nat) (_ : _ ≤ _) (_ : _ = none) => ?_; conv => whnf)
    intro r H1 hB hN hE
    have hb0 : BO H1 r (List.replicate 256 0) := BO.zeros hE.new
    (conv => whnf); repeat first | (refine drw (by decide +kernel) ?_; conv => whnf) | (refine fun (_ : Nat) (_ : _ ≤ _) (_ : _ = none) => ?_; conv => whnf)
    refine ⟨bytesV [76, 86, 69, 69], (show _ = _ by kernel_rfl), BO.store hb0 [76, 86, 69, 69] 0 (by rw [List.length_replicate]; decide) (.inr hB) ?_⟩
    intro H2 hk2 hb2
    have hb2 : BO H2 r sup0 := hb2
    (conv => whnf); repeat first | (refine drw (by decide +kernel) ?_; conv => whnf) | (refine fun (_ : Nat) (_ : _ ≤ _) (_ : _ = none) => ?_; conv => whnf)
    refine ⟨⟨by decide, by decide, by decide⟩, ?_⟩
    (conv => whnf); repeat first | (refine drw (by decide +kernel) ?_; conv => whnf) | (refine fun (_ : Nat) (_ : _ ≤ _) (_ : _ = none) => ?_; conv => whnf)
    (refine VCall.ret (by kernel_rfl) (fun w hs => nput_ok' s.gen.toNat w hs hb2 (off2 := 4) (n2 := 8) rfl rfl (by rw [← wrap_u64 (by omega)]; congr 1; omega) (by rw [sup0_len]; decide) (by decide) (by omega)) ?_ ?_)
    · rintro i rfl; exact ⟨hb2.put, .inr hB⟩
    rintro v1 H3 hk3 hd3 ⟨rfl, hb3⟩
    have hb3 : BO H3 r (sup1 s) := hb3
    (conv => whnf); repeat first | (refine drw (by decide +kernel) ?_; conv => whnf) | (refine fun (_ : Nat) (_ : _ ≤ _) (_ : _ = none) => ?_; conv => whnf)
    refine ⟨⟨by decide, by decide, by decide⟩, ?_⟩
    (conv => whnf); repeat first | (refine drw (by decide +kernel) ?_; conv => whnf) | (refine fun (_ : Nat) (_ : _ ≤ _) (_ : _ = none) => ?_; conv => whnf)
    (refine VCall.ret (by kernel_rfl) (fun w hs => nput_ok' s.g.gr.toNat w hs hb3 (off2 := 12) (n2 := 2) rfl rfl (by rw [← wrap_u64 (by omega)]; congr 1; omega) (by rw [sup1_len]; decide) (by decide) (by omega)) ?_ ?_)
    · rintro i rfl; exact ⟨hb3.put, .inr hB⟩
    rintro v1 H4 hk4 hd4 ⟨rfl, hb4⟩
    have hb4 : BO H4 r (sup2 s) := hb4
    (conv => whnf); repeat first | (refine drw (by decide +kernel) ?_; conv => whnf) | (refine fun (_ : Nat) (_ : _ ≤ _) (_ : _ = none) => ?_; conv => whnf)
    refine ⟨⟨by decide, by decide, by decide⟩, ?_⟩
    (conv => whnf); repeat first | (refine drw (by decide +kernel) ?_; conv => whnf) | (refine fun (_ : Nat) (_ : _ ≤ _) (_ : _ = none) => ?_; conv => whnf)
    (refine VCall.ret (by kernel_rfl) (fun w hs => nput_ok' s.g.inn.toNat w hs hb4 (off2 := 14) (n2 := 2) rfl rfl (by rw [← wrap_u64 (by omega)]; congr 1; omega) (by rw [sup2_len]; decide) (by decide) (by omega)) ?_ ?_)
    · rintro i rfl; exact ⟨hb4.put, .inr hB⟩
    rintro v1 H5 hk5 hd5 ⟨rfl, hb5⟩
    have hb5 : BO H5 r (sup3 s) := hb5
    (conv => whnf); repeat first | (refine drw (by decide +kernel) ?_; conv => whnf) | (refine fun (_ : Nat) (_ : _ ≤ _) (_ : _ = none) => ?_; conv => whnf)
    refine ⟨⟨by decide, by decide, by decide⟩, ?_⟩
    (conv => whnf); repeat first | (refine drw (by decide +kernel) ?_; conv => whnf) | (refine fun (_ : Nat) (_ : _ ≤ _) (_ : _ = none) => ?_; conv => whnf)
    (refine VCall.ret (by kernel_rfl) (fun w hs => nput_ok' s.g.gs.toNat w hs hb5 (off2 := 16) (n2 := 2) rfl rfl (by rw [← wrap_u64 (by omega)]; congr 1; omega) (by rw [sup3_len]; decide) (by decide) (by omega)) ?_ ?_)
    · rintro i rfl; exact ⟨hb5.put, .inr hB⟩
    rintro v1 H6 hk6 hd6 ⟨rfl, hb6⟩
    have hb6 : BO H6 r (sup4 s) := hb6
    (conv => whnf); repeat first | (refine drw (by decide +kernel) ?_; conv => whnf) | (refine fun (_ : Nat) (_ : _ ≤ _) (_ : _ = none) => ?_; conv => whnf)
    refine ⟨⟨by decide, by decide⟩, ?_⟩
    (conv => whnf); repeat first | (refine drw (by decide +kernel) ?_; conv => whnf) | (refine fun (_ : Nat) (_ : _ ≤ _) (_ : _ = none) => ?_; conv => whnf)
    refine ⟨⟨by decide, by decide⟩, ?_⟩
    (conv => whnf); repeat first | (refine drw (by decide +kernel) ?_; conv => whnf) | (refine fun (_ : Nat) (_ : _ ≤ _) (_ : _ = none) => ?_; conv => whnf)
    (refine VCall.pure_ (by kernel_rfl) (fun w hs => nsum_ok w hs (hb6.bs 0 252 256 (by rw [sup4_len]; decide) (by decide)) (by decide)) ?_); (conv => whnf); repeat first | (refine drw (by decide +kernel) ?_; conv => whnf) | (refine fun (_ : Nat) (_ : _ ≤ _) (_ : _ = none) => ?_; conv => whnf)
    have hsl := (sumB ((sup4 s).take 252)).toNat_lt
    (refine VCall.ret (by kernel_rfl) (fun w hs => nput_ok' (sumB ((sup4 s).take 252)).toNat w hs hb6 (off2 := 252) (n2 := 4) rfl rfl (wrap_u64 (by show (sumB ((sup4 s).take 252)).toNat < _; omega)) (by rw [sup4_len]; decide) (by decide) (by omega)) ?_ ?_)
    · rintro i rfl; exact ⟨hb6.put, .inr hB⟩
    rintro v1 H7 hk7 hd7 ⟨rfl, hb7⟩
    have hb7 : BO H7 r (supB s) := hb7
    (conv => whnf); repeat first | (refine drw (by decide +kernel) ?_; conv => whnf) | (refine fun (_ : Nat) (_ : _ ≤ _) (_ : _ = none) => ?_; conv => whnf)
    exact ⟨by rw [if_pos h1]; exact ⟨r, rfl, hN, hb7⟩⟩

/-- the superblock that bytes say -/
def supOf (bs : List UInt8) : Sp := ⟨IntKind.i64.wrap (leN ((bs.drop 4).take 8) : Nat), ⟨leN ((bs.drop 12).take 2), leN ((bs.drop 14).take 2), leN ((bs.drop 16).take 2)⟩⟩

def getS (bs : List UInt8) : Sp × Int :=
  if bs.length = 256 then (if bs.take 4 = [76, 86, 69, 69] then (if leN (bs.drop 252) = (sumB (bs.take 252)).toNat then
    (if (supOf bs).ok then (if ((bs.drop 18).take 234).all (· == 0) = true then (supOf bs, 0) else (sZ, 8)) else (sZ, 1)) else (sZ, 7)) else (sZ, 8)) else (sZ, 4)

def sVE (s : Sp) (e : Int) : Value := .tuple #[sV s, iV e]

theorem sget1_ok {H : HV} {r b off c : Nat} {bs : List UInt8} (i : Nat) (w : World) (hs : ∀ i o, H i = some o → w.heap[i]? = some o) (hr : RdC H r 0 (yV (some ⟨b, off, none⟩) 256 c)) (hb : BS H (some ⟨b, off, none⟩) 256 c bs) (hi : i + 2 ≤ 256) :
    Calls Tryz.prog 260 #[iV i, .pointer (some ⟨r, 0, none⟩)] w (RetP (iV (leN ((bs.drop i).take 2) : Nat)) w) := by
  have hcap := hb.le
  have hlen := hb.len
  refine fn_pure (args := [iV i, .pointer (some ⟨r, 0, none⟩)]) tabH Tryz.func260 rfl (by kernel_rfl)  hs ?_
  have e1 : IntKind.i64.wrap ((i : Int) + 2) = ((i + 2 : Nat) : Int) := by rw [wrap64 (by omega)]; rfl
  (conv => whnf); repeat first | (refine drw (by decide +kernel) ?_; conv => whnf) | (refine fun (_ : Nat) (_ : _ ≤ _) (_ : _ = none) => ?_; conv => whnf)
  refine ⟨_, hr, ?_⟩
  (conv => whnf); repeat first | (refine drw (by decide +kernel) ?_; conv => whnf) | (refine fun (_ : Nat) (_ : _ ≤ _) (_ : _ = none) => ?_; conv => whnf)
  rw [e1]
  refine ⟨⟨by omega, by omega, by omega⟩, ?_⟩
  (conv => whnf); repeat first | (refine drw (by decide +kernel) ?_; conv => whnf) | (refine fun (_ : Nat) (_ : _ ≤ _) (_ : _ = none) => ?_; conv => whnf)
  have hl2 : ((bs.drop i).take 2).length = 2 := by simp; omega
  have hv2 := leN_lt ((bs.drop i).take 2)
  rw [hl2] at hv2
  have hsb := hb.sub i (i + 2) (by omega) (by omega)
  (refine VCall.pure_ (by kernel_rfl) (fun w hs => nget_ok w hs hsb (by omega)) ?_); (conv => whnf); repeat first | (refine drw (by decide +kernel) ?_; conv => whnf) | (refine fun (_ : Nat) (_ : _ ≤ _) (_ : _ = none) => ?_; conv => whnf)
  rw [show i + 2 - i = 2 from by omega, wrap64 (by omega)]; rfl

theorem sget_ok {H : HV} {a : Option Addr} {n c : Nat} {bs : List UInt8} (w : World) (hs : ∀ i o, H i = some o → w.heap[i]? = some o) (hb : BS H a n c bs) (hn : n < 4611686018427387904) :
    Calls Tryz.prog 190 #[yV a n c] w (RetP (sVE (getS bs).1 (getS bs).2) w) := by
  have hlen := hb.len
  refine fn_pure (args := [yV a n c]) tabH Tryz.func190 rfl (by kernel_rfl)  hs ?_
  (conv => whnf); repeat first | (refine drw (by decide +kernel) ?_; conv => whnf) | (refine fun (_ : Nat) (_ : _ ≤ _) (_ : _ = none) => ?_; conv => whnf)
  refine vif_not (fun h1 => ?_) (fun h1 => ?_)
  · (conv => whnf); repeat first | (refine drw (by decide +kernel) ?_; conv => whnf) | (refine fun (_ : Nat) (_ : _ ≤ _) (_ : _ = none) => ?_; conv => whnf)
    have hg : getS bs = (sZ, 4) := by unfold getS; rw [if_neg (by omega)]
    rw [hg]; rfl
  · have hn2 : n = 256 := by omega
    subst hn2
    have hcap := hb.le
    obtain ⟨b, off, rfl⟩ := hb.nonempty (by omega)
    (conv => whnf); repeat first | (refine drw (by decide +kernel) ?_; conv => whnf) | (refine fun (_ : Nat) (_ : _ ≤ _) (_ : _ = none) => ?_; conv => whnf)
    refine ⟨⟨by decide, by omega⟩, ?_⟩
    (conv => whnf); repeat first | (refine drw (by decide +kernel) ?_; conv => whnf) | (refine fun (_ : Nat) (_ : _ ≤ _) (_ : _ = none) => ?_; conv => whnf)
    refine ⟨bs.take 4, by simp; omega, hb.take 4 (by decide), ?_⟩
    (conv => whnf); repeat first | (refine drw (by decide +kernel) ?_; conv => whnf) | (refine fun (_ : Nat) (_ : _ ≤ _) (_ : _ = none) => ?_; conv => whnf)
    have hst := str_eq (bs.take 4) [76, 86, 69, 69]
    rw [hst]
    refine vif_not (fun h2 => ?_) (fun h2 => ?_)
    · (conv => whnf); repeat first | (refine drw (by decide +kernel) ?_; conv => whnf) | (refine fun (_ : Nat) (_ : _ ≤ _) (_ : _ = none) => ?_; conv => whnf)
      have hg : getS bs = (sZ, 8) := by unfold getS; rw [if_pos hlen, if_neg h2]
      rw [hg]; rfl
    · conv => whnf
      refine VDraw.held [0] [3] tabH mixH (by kernel_rfl) ⟨.inr ⟨0, _, _, rfl, rfl, rfl⟩, trivial⟩ ?_
      (conv => whnf); repeat (first | (refine fun (_ : Nat) (_ : _ ≤ _) (_ : _ = none) => ?_; conv => whnf) | (refine drw (by decide +kernel) ?_; conv => whnf) | (refine And.intro ?_ ?_; (focus (first | ((repeat (first | exact trivial | ((conv => whnf); refine And.intro (by first | exact .inr ⟨0, _, _, rfl, rfl, rfl⟩ | exact .inr ⟨1, _, _, rfl, rfl, rfl⟩ | exact .inr ⟨2, _, _, rfl, rfl, rfl⟩ | exact .inr ⟨3, _, _, rfl, rfl, rfl⟩ | assumption) ?_))); done) | ((conv => whnf); first | exact ⟨0, 0, _, _, _, rfl, (Nat.zero_add _).symm, rfl, rfl⟩ | exact ⟨1, 0, _, _, _, rfl, (Nat.zero_add _).symm, rfl, rfl⟩ | exact ⟨2, 0, _, _, _, rfl, (Nat.zero_add _).symm, rfl, rfl⟩ | exact ⟨3, 0, _, _, _, rfl, (Nat.zero_add _).symm, rfl, rfl⟩ | exact ⟨0, _, 0, _, _, rfl, rfl, rfl, rfl⟩ | exact ⟨1, _, 0, _, _, rfl, rfl, rfl, rfl⟩ | exact ⟨2, _, 0, _, _, rfl, rfl, rfl, rfl⟩ | exact ⟨3, _, 0, _, _, rfl, rfl, rfl, rfl⟩))); conv => whnf))
      refine ⟨⟨by decide, by omega⟩, ?_⟩
      (conv => whnf); repeat (first | (refine fun (_ : Nat) (_ : _ ≤ _) (_ : _ = none) => ?_; conv => whnf) | (refine drw (by decide +kernel) ?_; conv => whnf) | (refine And.intro ?_ ?_; (focus (first | ((repeat (first | exact trivial | ((conv => whnf); refine And.intro (by first | exact .inr ⟨0, _, _, rfl, rfl, rfl⟩ | exact .inr ⟨1, _, _, rfl, rfl, rfl⟩ | exact .inr ⟨2, _, _, rfl, rfl, rfl⟩ | exact .inr ⟨3, _, _, rfl, rfl, rfl⟩ | assumption) ?_))); done) | ((conv => whnf); first | exact ⟨0, 0, _, _, _, rfl, (Nat.zero_add _).symm, rfl, rfl⟩ | exact ⟨1, 0, _, _, _, rfl, (Nat.zero_add _).symm, rfl, rfl⟩ | exact ⟨2, 0, _, _, _, rfl, (Nat.zero_add _).symm, rfl, rfl⟩ | exact ⟨3, 0, _, _, _, rfl, (Nat.zero_add _).symm, rfl, rfl⟩ | exact ⟨0, _, 0, _, _, rfl, rfl, rfl, rfl⟩ | exact ⟨1, _, 0, _, _, rfl, rfl, rfl, rfl⟩ | exact ⟨2, _, 0, _, _, rfl, rfl, rfl, rfl⟩ | exact ⟨3, _, 0, _, _, rfl, rfl, rfl, rfl⟩))); conv => whnf))
      have hs4 := hb.sub 252 256 (by decide) (by decide)
      (refine VCall.pure_ (by kernel_rfl) (fun w hs => nget_ok w hs hs4 (by decide)) ?_); (conv => whnf); repeat (first | (refine fun (_ : Nat) (_ : _ ≤ _) (_ : _ = none) => ?_; conv => whnf) | (refine drw (by decide +kernel) ?_; conv => whnf) | (refine And.intro ?_ ?_; (focus (first | ((repeat (first | exact trivial | ((conv => whnf); refine And.intro (by first | exact .inr ⟨0, _, _, rfl, rfl, rfl⟩ | exact .inr ⟨1, _, _, rfl, rfl, rfl⟩ | exact .inr ⟨2, _, _, rfl, rfl, rfl⟩ | exact .inr ⟨3, _, _, rfl, rfl, rfl⟩ | assumption) ?_))); done) | ((conv => whnf); first | exact ⟨0, 0, _, _, _, rfl, (Nat.zero_add _).symm, rfl, rfl⟩ | exact ⟨1, 0, _, _, _, rfl, (Nat.zero_add _).symm, rfl, rfl⟩ | exact ⟨2, 0, _, _, _, rfl, (Nat.zero_add _).symm, rfl, rfl⟩ | exact ⟨3, 0, _, _, _, rfl, (Nat.zero_add _).symm, rfl, rfl⟩ | exact ⟨0, _, 0, _, _, rfl, rfl, rfl, rfl⟩ | exact ⟨1, _, 0, _, _, rfl, rfl, rfl, rfl⟩ | exact ⟨2, _, 0, _, _, rfl, rfl, rfl, rfl⟩ | exact ⟨3, _, 0, _, _, rfl, rfl, rfl, rfl⟩))); conv => whnf))
      refine ⟨⟨by decide, by omega⟩, ?_⟩
      (conv => whnf); repeat (first | (refine fun (_ : Nat) (_ : _ ≤ _) (_ : _ = none) => ?_; conv => whnf) | (refine drw (by decide +kernel) ?_; conv => whnf) | (refine And.intro ?_ ?_; (focus (first | ((repeat (first | exact trivial | ((conv => whnf); refine And.intro (by first | exact .inr ⟨0, _, _, rfl, rfl, rfl⟩ | exact .inr ⟨1, _, _, rfl, rfl, rfl⟩ | exact .inr ⟨2, _, _, rfl, rfl, rfl⟩ | exact .inr ⟨3, _, _, rfl, rfl, rfl⟩ | assumption) ?_))); done) | ((conv => whnf); first | exact ⟨0, 0, _, _, _, rfl, (Nat.zero_add _).symm, rfl, rfl⟩ | exact ⟨1, 0, _, _, _, rfl, (Nat.zero_add _).symm, rfl, rfl⟩ | exact ⟨2, 0, _, _, _, rfl, (Nat.zero_add _).symm, rfl, rfl⟩ | exact ⟨3, 0, _, _, _, rfl, (Nat.zero_add _).symm, rfl, rfl⟩ | exact ⟨0, _, 0, _, _, rfl, rfl, rfl, rfl⟩ | exact ⟨1, _, 0, _, _, rfl, rfl, rfl, rfl⟩ | exact ⟨2, _, 0, _, _, rfl, rfl, rfl, rfl⟩ | exact ⟨3, _, 0, _, _, rfl, rfl, rfl, rfl⟩))); conv => whnf))
      have e252 : (bs.drop 252).take (256 - 252) = bs.drop 252 := List.take_of_length_le (by simp; omega)
      rw [e252]
      (refine VCall.pure_ (by kernel_rfl) (fun w hs => nsum_ok w hs (hb.pre 252 (by decide)) (by decide)) ?_); (conv => whnf); repeat (first | (refine fun (_ : Nat) (_ : _ ≤ _) (_ : _ = none) => ?_; conv => whnf) | (refine drw (by decide +kernel) ?_; conv => whnf) | (refine And.intro ?_ ?_; (focus (first | ((repeat (first | exact trivial | ((conv => whnf); refine And.intro (by first | exact .inr ⟨0, _, _, rfl, rfl, rfl⟩ | exact .inr ⟨1, _, _, rfl, rfl, rfl⟩ | exact .inr ⟨2, _, _, rfl, rfl, rfl⟩ | exact .inr ⟨3, _, _, rfl, rfl, rfl⟩ | assumption) ?_))); done) | ((conv => whnf); first | exact ⟨0, 0, _, _, _, rfl, (Nat.zero_add _).symm, rfl, rfl⟩ | exact ⟨1, 0, _, _, _, rfl, (Nat.zero_add _).symm, rfl, rfl⟩ | exact ⟨2, 0, _, _, _, rfl, (Nat.zero_add _).symm, rfl, rfl⟩ | exact ⟨3, 0, _, _, _, rfl, (Nat.zero_add _).symm, rfl, rfl⟩ | exact ⟨0, _, 0, _, _, rfl, rfl, rfl, rfl⟩ | exact ⟨1, _, 0, _, _, rfl, rfl, rfl, rfl⟩ | exact ⟨2, _, 0, _, _, rfl, rfl, rfl, rfl⟩ | exact ⟨3, _, 0, _, _, rfl, rfl, rfl, rfl⟩))); conv => whnf))
      have hsl := (sumB (bs.take 252)).toNat_lt
      have hl4 : (bs.drop 252).length = 4 := by simp; omega
      have hv4 := leN_lt (bs.drop 252)
      rw [hl4] at hv4
      rw [wrap_u64 (by omega)]
      refine vif_not (fun h3 => ?_) (fun h3 => ?_)
      · (conv => whnf); repeat first | (refine drw (by decide +kernel) ?_; conv => whnf) | (refine fun (_ : Nat) (_ : _ ≤ _) (_ : _ = none) => ?_; conv => whnf)
        have hg : getS bs = (sZ, 7) := by unfold getS; rw [if_pos hlen, if_pos h2, if_neg (by omega)]
        rw [hg]; rfl
      · (conv => whnf); repeat first | (refine drw (by decide +kernel) ?_; conv => whnf) | (refine fun (_ : Nat) (_ : _ ≤ _) (_ : _ = none) => ?_; conv => whnf)
        intro H1 hE1
        have hr := (⟨_, _, _, hE1.new, rfl⟩ : RdC H1 _ 0 (yV (some ⟨b, off, none⟩) 256 c))
        have hb1 := hb.mono hE1.old
        have hs412 : BS H1 (some ⟨b, _, none⟩) _ _ ((bs.drop 4).take 8) := hb1.sub 4 12 (by decide) (by decide)
        (conv => whnf); repeat first | (refine drw (by decide +kernel) ?_; conv => whnf) | (refine fun (_ : Nat) (_ : _ ≤ _) (_ : _ = none) => ?_; conv => whnf)
        refine ⟨_, hr, ?_⟩
        (conv => whnf); repeat first | (refine drw (by decide +kernel) ?_; conv => whnf) | (refine fun (_ : Nat) (_ : _ ≤ _) (_ : _ = none) => ?_; conv => whnf)
        refine ⟨⟨by decide, by decide, by omega⟩, ?_⟩
        (conv => whnf); repeat first | (refine drw (by decide +kernel) ?_; conv => whnf) | (refine fun (_ : Nat) (_ : _ ≤ _) (_ : _ = none) => ?_; conv => whnf)
        (refine VCall.pure_ (by kernel_rfl) (fun w hs => nget_ok w hs hs412 (by decide)) ?_); (conv => whnf); repeat first | (refine drw (by decide +kernel) ?_; conv => whnf) | (refine fun (_ : Nat) (_ : _ ≤ _) (_ : _ = none) => ?_; conv => whnf)
        (refine VCall.pure_ (by kernel_rfl) (fun w hs => sget1_ok 12 w hs hr hb1 (by decide)) ?_); (conv => whnf); repeat first | (refine drw (by decide +kernel) ?_; conv => whnf) | (refine fun (_ : Nat) (_ : _ ≤ _) (_ : _ = none) => ?_; conv => whnf)
        (refine VCall.pure_ (by kernel_rfl) (fun w hs => sget1_ok 14 w hs hr hb1 (by decide)) ?_); (conv => whnf); repeat first | (refine drw (by decide +kernel) ?_; conv => whnf) | (refine fun (_ : Nat) (_ : _ ≤ _) (_ : _ = none) => ?_; conv => whnf)
        (refine VCall.pure_ (by kernel_rfl) (fun w hs => sget1_ok 16 w hs hr hb1 (by decide)) ?_); (conv => whnf); repeat first | (refine drw (by decide +kernel) ?_; conv => whnf) | (refine fun (_ : Nat) (_ : _ ≤ _) (_ : _ = none) => ?_; conv => whnf)
        obtain ⟨sp, hsp⟩ : ∃ sp, supOf bs = sp := ⟨_, rfl⟩
        have hg : getS bs = if sp.ok then (if ((bs.drop 18).take 234).all (· == 0) = true then (sp, 0) else (sZ, 8)) else (sZ, 1) := by
          unfold getS; rw [if_pos hlen, if_pos h2, if_pos (by omega), hsp]
        (refine VCall.pure_ (by kernel_rfl) (fun w hs => sright_ok (supOf bs) w) ?_); (conv => whnf); repeat first | (refine drw (by decide +kernel) ?_; conv => whnf) | (refine fun (_ : Nat) (_ : _ ≤ _) (_ : _ = none) => ?_; conv => whnf)
        rw [hsp]
        refine vif_not (fun h4 => ?_) (fun h4 => ?_)
        · (conv => whnf); repeat first | (refine drw (by decide +kernel) ?_; conv => whnf) | (refine fun (_ : Nat) (_ : _ ≤ _) (_ : _ = none) => ?_; conv => whnf)
          rw [hg, if_neg h4]; rfl
        · rw [if_pos h4] at hg
          have hs18 : BS H1 (some ⟨b, _, none⟩) _ _ ((bs.drop 18).take 234) := hb1.sub 18 252 (by decide) (by decide)
          (conv => whnf); repeat first | (refine drw (by decide +kernel) ?_; conv => whnf) | (refine fun (_ : Nat) (_ : _ ≤ _) (_ : _ = none) => ?_; conv => whnf)
          refine ⟨_, hr, ?_⟩
          (conv => whnf); repeat first | (refine drw (by decide +kernel) ?_; conv => whnf) | (refine fun (_ : Nat) (_ : _ ≤ _) (_ : _ = none) => ?_; conv => whnf)
          refine ⟨⟨by decide, by decide, by omega⟩, ?_⟩
          (conv => whnf); repeat first | (refine drw (by decide +kernel) ?_; conv => whnf) | (refine fun (_ : Nat) (_ : _ ≤ _) (_ : _ = none) => ?_; conv => whnf)
          (refine VCall.pure_ (by kernel_rfl) (fun w hs => zero_ok w hs hs18 (by decide)) ?_); (conv => whnf); repeat first | (refine drw (by decide +kernel) ?_; conv => whnf) | (refine fun (_ : Nat) (_ : _ ≤ _) (_ : _ = none) => ?_; conv => whnf)
          refine vif_intro (fun h5 => ?_) (fun h5 => ?_)
          · (conv => whnf); repeat first | (refine drw (by decide +kernel) ?_; conv => whnf) | (refine fun (_ : Nat) (_ : _ ≤ _) (_ : _ = none) => ?_; conv => whnf)
            rw [hg, if_neg (fun h => by rw [h] at h5; cases h5)]; rfl
          · rw [if_pos (by simpa using h5)] at hg
            (conv => whnf); repeat first | (refine drw (by decide +kernel) ?_; conv => whnf) | (refine fun (_ : Nat) (_ : _ ≤ _) (_ : _ = none) => ?_; conv => whnf)
            rw [hg]
            rw [← hsp]; rfl

def pick1 (n : Int) (i : Int) (bs : List UInt8) (best : Sp) : Sp :=
  if (getS bs).2 = 0 ∧ (getS bs).1.gen.tmod 2 = i ∧ (getS bs).1.g.size ≤ n ∧ (getS bs).1.gen > best.gen then (getS bs).1 else best
def chooseS (xs ys : List UInt8) (n : Int) : Sp := pick1 n 1 ys (pick1 n 0 xs sZ)
def chooseV (s : Sp) : Value := if s = sZ then .tuple #[sV sZ, iV 0, iV 10] else .tuple #[sV s, iV (s.gen.tmod 2), iV 0]

theorem super_eqF (d : Nat) : EqF Tryz.prog (d + 1 + 1 + 1) 148 true [.i64, .i64, .i64, .i64] :=
  EqF_structB [(2, false, [.i64]), (23, true, [.i64, .i64, .i64])] (by kernel_rfl) ⟨EqF_intB (by kernel_rfl) _, geo_eqF d, trivial⟩

theorem sup_eq (g h : Sp) : ∀ w : World, (Op.equal 148 (sV g) (sV h)).run Tryz.prog w = .ok (decide (g = h)) w := by
  refine eq_flat (super_eqF 9997) rfl (KV.nil.cons.cons.cons.cons) (KV.nil.cons.cons.cons.cons) ?_
  obtain ⟨e, a, b, c⟩ := g
  obtain ⟨e', a', b', c'⟩ := h
  simp

theorem schoose_ok {H : HV} {a a2 : Option Addr} {n c n2 c2 : Nat} {xs ys : List UInt8} (k : Int) (w : World) (hs : ∀ i o, H i = some o → w.heap[i]? = some o) (hx : BS H a n c xs) (hy : BS H a2 n2 c2 ys) (hn : n < 4611686018427387904) (hn2 : n2 < 4611686018427387904) :
    Calls Tryz.prog 106 #[yV a n c, yV a2 n2 c2, iV k] w (RetP (chooseV (chooseS xs ys k)) w) := by
  refine fn_pure (args := [yV a n c, yV a2 n2 c2, iV k]) tabH Tryz.func106 rfl (by kernel_rfl)  hs ?_
  conv => whnf
  intro r1 hB1 hN1
  conv => whnf
  intro r2 hB2 hN2
  (conv => whnf); repeat first | (refine drw (by decide +kernel) ?_; conv => whnf) | (refine fun (_ : Nat) (_ : _ ≤ _) (_ : _ = none) => ?_; conv => whnf)
  refine VLoop.okh (X := Nat × Sp) (fun x => [(19, .v (.int .i64 x.1)), (18, .v (.agg ⟨[yV a n c, yV a2 n2 c2]⟩)), (2, .v (iV k)), (6, .p 0 r1 0), (7, .v (iV 0)), (8, .v (iV 0)), (9, .p 1 r2 0)])
    (fun x => [.mk r1 148 [.v (iV 0), .v (iV 0), .v (iV 0), .v (iV 0)], .mk r2 148 [.v (iV x.2.gen), .v (iV x.2.g.gr), .v (iV x.2.g.inn), .v (iV x.2.g.gs)]]) (fun _ => H)
    (fun x => x = (0, sZ) ∨ x = (1, pick1 k 0 xs sZ) ∨ x = (2, chooseS xs ys k)) (fun x => 2 - x.1) tabH (by kernel_rfl) (fun _ => rfl) (fun _ => rfl) (0, sZ) (.inl rfl) ⟨rfl, rfl, rfl, rfl, rfl, rfl, rfl, trivial⟩ rfl rfl ?_
  rintro x (rfl | rfl | rfl)
  · (conv => whnf); repeat first | (refine drw (by decide +kernel) ?_; conv => whnf) | (refine fun (_ : Nat) (_ : _ ≤ _) (_ : _ = none) => ?_; conv => whnf)
    refine ⟨⟨by decide, by decide⟩, ?_⟩
    (conv => whnf); repeat first | (refine drw (by decide +kernel) ?_; conv => whnf) | (refine fun (_ : Nat) (_ : _ ≤ _) (_ : _ = none) => ?_; conv => whnf)
    refine ⟨_, rfl, ?_⟩
    (conv => whnf); repeat first | (refine drw (by decide +kernel) ?_; conv => whnf) | (refine fun (_ : Nat) (_ : _ ≤ _) (_ : _ = none) => ?_; conv => whnf)
    (refine VCall.pure_ (by kernel_rfl) (fun w hs => sget_ok w hs hx hn) ?_); (conv => whnf); repeat first | (refine drw (by decide +kernel) ?_; conv => whnf) | (refine fun (_ : Nat) (_ : _ ≤ _) (_ : _ = none) => ?_; conv => whnf)
    have nxt : ∀ s, pick1 k 0 xs sZ = s → ((1 : Nat), s) = (0, sZ) ∨ ((1 : Nat), s) = (1, pick1 k 0 xs sZ) ∨ ((1 : Nat), s) = (2, chooseS xs ys k) := fun s h => .inr (.inl (by rw [h]))
    generalize hq : getS xs = q at *
    obtain ⟨sq, eq⟩ := q
    (conv => whnf); repeat first | (refine drw (by decide +kernel) ?_; conv => whnf) | (refine fun (_ : Nat) (_ : _ ≤ _) (_ : _ = none) => ?_; conv => whnf)
    have hp : pick1 k 0 xs sZ = if eq = 0 ∧ sq.gen.tmod 2 = 0 ∧ sq.g.size ≤ k ∧ sq.gen > sZ.gen then sq else sZ := by unfold pick1; rw [hq]
    have nop : ¬ (eq = 0 ∧ sq.gen.tmod 2 = 0 ∧ sq.g.size ≤ k ∧ sq.gen > sZ.gen) → pick1 k 0 xs sZ = sZ := fun h => by rw [hp, if_neg h]
    refine vif_dec (fun h1 => ?_) (fun h1 => ?_)
    · (conv => whnf); repeat first | (refine drw (by decide +kernel) ?_; conv => whnf) | (refine fun (_ : Nat) (_ : _ ≤ _) (_ : _ = none) => ?_; conv => whnf)
      (refine VCall.pure_ (by kernel_rfl) (fun w hs => splace_ok sq w) ?_); (conv => whnf); repeat first | (refine drw (by decide +kernel) ?_; conv => whnf) | (refine fun (_ : Nat) (_ : _ ≤ _) (_ : _ = none) => ?_; conv => whnf)
      refine vif_dec (fun h2 => ?_) (fun h2 => ?_)
      · (conv => whnf); repeat first | (refine drw (by decide +kernel) ?_; conv => whnf) | (refine fun (_ : Nat) (_ : _ ≤ _) (_ : _ = none) => ?_; conv => whnf)
        (refine VCall.pure_ (by kernel_rfl) (fun w hs => gsize_ok sq.g w) ?_); (conv => whnf); repeat first | (refine drw (by decide +kernel) ?_; conv => whnf) | (refine fun (_ : Nat) (_ : _ ≤ _) (_ : _ = none) => ?_; conv => whnf)
        refine vif_dec (fun h3 => ?_) (fun h3 => ?_)
        · (conv => whnf); repeat first | (refine drw (by decide +kernel) ?_; conv => whnf) | (refine fun (_ : Nat) (_ : _ ≤ _) (_ : _ = none) => ?_; conv => whnf)
          refine vif_dec (fun h4 => ?_) (fun h4 => ?_)
          · (conv => whnf); repeat first | (refine drw (by decide +kernel) ?_; conv => whnf) | (refine fun (_ : Nat) (_ : _ ≤ _) (_ : _ = none) => ?_; conv => whnf)
            rw [if_pos ⟨h1, h2, h3, h4⟩] at hp
            refine ⟨(1, sq), nxt _ hp, by dsimp only; omega, ⟨rfl, rfl, rfl, rfl, rfl, rfl, rfl, trivial⟩, ⟨[_], rfl⟩, rfl⟩
          · (conv => whnf); repeat first | (refine drw (by decide +kernel) ?_; conv => whnf) | (refine fun (_ : Nat) (_ : _ ≤ _) (_ : _ = none) => ?_; conv => whnf)
            refine ⟨(1, sZ), nxt _ (nop (fun h => h4 h.2.2.2)), by dsimp only; omega, ⟨rfl, rfl, rfl, rfl, rfl, rfl, rfl, trivial⟩, ⟨[_], rfl⟩, rfl⟩
        · (conv => whnf); repeat first | (refine drw (by decide +kernel) ?_; conv => whnf) | (refine fun (_ : Nat) (_ : _ ≤ _) (_ : _ = none) => ?_; conv => whnf)
          refine ⟨(1, sZ), nxt _ (nop (fun h => h3 h.2.2.1)), by dsimp only; omega, ⟨rfl, rfl, rfl, rfl, rfl, rfl, rfl, trivial⟩, ⟨[_], rfl⟩, rfl⟩
      · (conv => whnf); repeat first | (refine drw (by decide +kernel) ?_; conv => whnf) | (refine fun (_ : Nat) (_ : _ ≤ _) (_ : _ = none) => ?_; conv => whnf)
        refine ⟨(1, sZ), nxt _ (nop (fun h => h2 h.2.1)), by dsimp only; omega, ⟨rfl, rfl, rfl, rfl, rfl, rfl, rfl, trivial⟩, ⟨[_], rfl⟩, rfl⟩
    · (conv => whnf); repeat first | (refine drw (by decide +kernel) ?_; conv => whnf) | (refine fun (_ : Nat) (_ : _ ≤ _) (_ : _ = none) => ?_; conv => whnf)
      refine ⟨(1, sZ), nxt _ (nop (fun h => h1 h.1)), by dsimp only; omega, ⟨rfl, rfl, rfl, rfl, rfl, rfl, rfl, trivial⟩, ⟨[_], rfl⟩, rfl⟩
  · (conv => whnf); repeat first | (refine drw (by decide +kernel) ?_; conv => whnf) | (refine fun (_ : Nat) (_ : _ ≤ _) (_ : _ = none) => ?_; conv => whnf)
    refine ⟨⟨by show (0 : Int) ≤ 1; decide, by show (1 : Int) < 2; decide⟩, ?_⟩
    (conv => whnf); repeat first | (refine drw (by decide +kernel) ?_; conv => whnf) | (refine fun (_ : Nat) (_ : _ ≤ _) (_ : _ = none) => ?_; conv => whnf)
    refine ⟨_, rfl, ?_⟩
    (conv => whnf); repeat first | (refine drw (by decide +kernel) ?_; conv => whnf) | (refine fun (_ : Nat) (_ : _ ≤ _) (_ : _ = none) => ?_; conv => whnf)
    (refine VCall.pure_ (by kernel_rfl) (fun w hs => sget_ok w hs hy hn2) ?_); (conv => whnf); repeat first | (refine drw (by decide +kernel) ?_; conv => whnf) | (refine fun (_ : Nat) (_ : _ ≤ _) (_ : _ = none) => ?_; conv => whnf)
    have nxt : ∀ s, pick1 k 1 ys (pick1 k 0 xs sZ) = s → ((2 : Nat), s) = (0, sZ) ∨ ((2 : Nat), s) = (1, pick1 k 0 xs sZ) ∨ ((2 : Nat), s) = (2, chooseS xs ys k) := fun s h => .inr (.inr (by rw [← h]; rfl))
    obtain ⟨bst, hbst⟩ : ∃ s, pick1 k 0 xs sZ = s := ⟨_, rfl⟩
    rw [hbst] at nxt ⊢
    generalize hq : getS ys = q at *
    obtain ⟨sq, eq⟩ := q
    (conv => whnf); repeat first | (refine drw (by decide +kernel) ?_; conv => whnf) | (refine fun (_ : Nat) (_ : _ ≤ _) (_ : _ = none) => ?_; conv => whnf)
    have hp : pick1 k 1 ys bst = if eq = 0 ∧ sq.gen.tmod 2 = 1 ∧ sq.g.size ≤ k ∧ sq.gen > bst.gen then sq else bst := by unfold pick1; rw [hq]
    have nop : ¬ (eq = 0 ∧ sq.gen.tmod 2 = 1 ∧ sq.g.size ≤ k ∧ sq.gen > bst.gen) → pick1 k 1 ys bst = bst := fun h => by rw [hp, if_neg h]
    refine vif_dec (fun h1 => ?_) (fun h1 => ?_)
    · (conv => whnf); repeat first | (refine drw (by decide +kernel) ?_; conv => whnf) | (refine fun (_ : Nat) (_ : _ ≤ _) (_ : _ = none) => ?_; conv => whnf)
      (refine VCall.pure_ (by kernel_rfl) (fun w hs => splace_ok sq w) ?_); (conv => whnf); repeat first | (refine drw (by decide +kernel) ?_; conv => whnf) | (refine fun (_ : Nat) (_ : _ ≤ _) (_ : _ = none) => ?_; conv => whnf)
      refine vif_dec (fun h2 => ?_) (fun h2 => ?_)
      · (conv => whnf); repeat first | (refine drw (by decide +kernel) ?_; conv => whnf) | (refine fun (_ : Nat) (_ : _ ≤ _) (_ : _ = none) => ?_; conv => whnf)
        (refine VCall.pure_ (by kernel_rfl) (fun w hs => gsize_ok sq.g w) ?_); (conv => whnf); repeat first | (refine drw (by decide +kernel) ?_; conv => whnf) | (refine fun (_ : Nat) (_ : _ ≤ _) (_ : _ = none) => ?_; conv => whnf)
        refine vif_dec (fun h3 => ?_) (fun h3 => ?_)
        · (conv => whnf); repeat first | (refine drw (by decide +kernel) ?_; conv => whnf) | (refine fun (_ : Nat) (_ : _ ≤ _) (_ : _ = none) => ?_; conv => whnf)
          refine vif_dec (fun h4 => ?_) (fun h4 => ?_)
          · (conv => whnf); repeat first | (refine drw (by decide +kernel) ?_; conv => whnf) | (refine fun (_ : Nat) (_ : _ ≤ _) (_ : _ = none) => ?_; conv => whnf)
            rw [if_pos ⟨h1, h2, h3, h4⟩] at hp
            refine ⟨(2, sq), nxt _ hp, by dsimp only; omega, ⟨rfl, rfl, rfl, rfl, rfl, rfl, rfl, trivial⟩, ⟨[_], rfl⟩, rfl⟩
          · (conv => whnf); repeat first | (refine drw (by decide +kernel) ?_; conv => whnf) | (refine fun (_ : Nat) (_ : _ ≤ _) (_ : _ = none) => ?_; conv => whnf)
            refine ⟨(2, bst), nxt _ (nop (fun h => h4 h.2.2.2)), by dsimp only; omega, ⟨rfl, rfl, rfl, rfl, rfl, rfl, rfl, trivial⟩, ⟨[_], rfl⟩, rfl⟩
        · (conv => whnf); repeat first | (refine drw (by decide +kernel) ?_; conv => whnf) | (refine fun (_ : Nat) (_ : _ ≤ _) (_ : _ = none) => ?_; conv => whnf)
          refine ⟨(2, bst), nxt _ (nop (fun h => h3 h.2.2.1)), by dsimp only; omega, ⟨rfl, rfl, rfl, rfl, rfl, rfl, rfl, trivial⟩, ⟨[_], rfl⟩, rfl⟩
      · (conv => whnf); repeat first | (refine drw (by decide +kernel) ?_; conv => whnf) | (refine fun (_ : Nat) (_ : _ ≤ _) (_ : _ = none) => ?_; conv => whnf)
        refine ⟨(2, bst), nxt _ (nop (fun h => h2 h.2.1)), by dsimp only; omega, ⟨rfl, rfl, rfl, rfl, rfl, rfl, rfl, trivial⟩, ⟨[_], rfl⟩, rfl⟩
    · (conv => whnf); repeat first | (refine drw (by decide +kernel) ?_; conv => whnf) | (refine fun (_ : Nat) (_ : _ ≤ _) (_ : _ = none) => ?_; conv => whnf)
      refine ⟨(2, bst), nxt _ (nop (fun h => h1 h.1)), by dsimp only; omega, ⟨rfl, rfl, rfl, rfl, rfl, rfl, rfl, trivial⟩, ⟨[_], rfl⟩, rfl⟩
  · (conv => whnf); repeat first | (refine drw (by decide +kernel) ?_; conv => whnf) | (refine fun (_ : Nat) (_ : _ ≤ _) (_ : _ = none) => ?_; conv => whnf)
    refine ⟨eq_guard (by kernel_rfl), _, sup_eq (chooseS xs ys k) sZ, ?_⟩
    generalize chooseS xs ys k = s
    (conv => whnf); repeat first | (refine drw (by decide +kernel) ?_; conv => whnf) | (refine fun (_ : Nat) (_ : _ ≤ _) (_ : _ = none) => ?_; conv => whnf)
    refine vif_dec (fun h1 => ?_) (fun h1 => ?_)
    · (conv => whnf); repeat first | (refine drw (by decide +kernel) ?_; conv => whnf) | (refine fun (_ : Nat) (_ : _ ≤ _) (_ : _ = none) => ?_; conv => whnf)
      unfold chooseV; rw [if_pos h1, h1]; rfl
    · (conv => whnf); repeat first | (refine drw (by decide +kernel) ?_; conv => whnf) | (refine fun (_ : Nat) (_ : _ ≤ _) (_ : _ = none) => ?_; conv => whnf)
      (refine VDraw.held [1] [0] tabH mixH (by kernel_rfl) ?_ ?_); (focus ((repeat (first | exact trivial | ((conv => whnf); refine And.intro (by first | exact .inr ⟨0, _, _, rfl, rfl, rfl⟩ | exact .inr ⟨1, _, _, rfl, rfl, rfl⟩ | exact .inr ⟨2, _, _, rfl, rfl, rfl⟩ | exact .inr ⟨3, _, _, rfl, rfl, rfl⟩ | assumption) ?_))); done)); (conv => whnf); repeat (first | (refine fun (_ : Nat) (_ : _ ≤ _) (_ : _ = none) => ?_; conv => whnf) | (refine drw (by decide +kernel) ?_; conv => whnf) | (refine And.intro ?_ ?_; (focus (first | ((repeat (first | exact trivial | ((conv => whnf); refine And.intro (by first | exact .inr ⟨0, _, _, rfl, rfl, rfl⟩ | exact .inr ⟨1, _, _, rfl, rfl, rfl⟩ | exact .inr ⟨2, _, _, rfl, rfl, rfl⟩ | exact .inr ⟨3, _, _, rfl, rfl, rfl⟩ | assumption) ?_))); done) | ((conv => whnf); first | exact ⟨0, 0, _, _, _, rfl, (Nat.zero_add _).symm, rfl, rfl⟩ | exact ⟨1, 0, _, _, _, rfl, (Nat.zero_add _).symm, rfl, rfl⟩ | exact ⟨2, 0, _, _, _, rfl, (Nat.zero_add _).symm, rfl, rfl⟩ | exact ⟨3, 0, _, _, _, rfl, (Nat.zero_add _).symm, rfl, rfl⟩ | exact ⟨0, _, 0, _, _, rfl, rfl, rfl, rfl⟩ | exact ⟨1, _, 0, _, _, rfl, rfl, rfl, rfl⟩ | exact ⟨2, _, 0, _, _, rfl, rfl, rfl, rfl⟩ | exact ⟨3, _, 0, _, _, rfl, rfl, rfl, rfl⟩))); conv => whnf))
      (refine VCall.pure_ (by kernel_rfl) (fun w hs => splace_ok s w) ?_); (conv => whnf); repeat (first | (refine fun (_ : Nat) (_ : _ ≤ _) (_ : _ = none) => ?_; conv => whnf) | (refine drw (by decide +kernel) ?_; conv => whnf) | (refine And.intro ?_ ?_; (focus (first | ((repeat (first | exact trivial | ((conv => whnf); refine And.intro (by first | exact .inr ⟨0, _, _, rfl, rfl, rfl⟩ | exact .inr ⟨1, _, _, rfl, rfl, rfl⟩ | exact .inr ⟨2, _, _, rfl, rfl, rfl⟩ | exact .inr ⟨3, _, _, rfl, rfl, rfl⟩ | assumption) ?_))); done) | ((conv => whnf); first | exact ⟨0, 0, _, _, _, rfl, (Nat.zero_add _).symm, rfl, rfl⟩ | exact ⟨1, 0, _, _, _, rfl, (Nat.zero_add _).symm, rfl, rfl⟩ | exact ⟨2, 0, _, _, _, rfl, (Nat.zero_add _).symm, rfl, rfl⟩ | exact ⟨3, 0, _, _, _, rfl, (Nat.zero_add _).symm, rfl, rfl⟩ | exact ⟨0, _, 0, _, _, rfl, rfl, rfl, rfl⟩ | exact ⟨1, _, 0, _, _, rfl, rfl, rfl, rfl⟩ | exact ⟨2, _, 0, _, _, rfl, rfl, rfl, rfl⟩ | exact ⟨3, _, 0, _, _, rfl, rfl, rfl, rfl⟩))); conv => whnf))
      unfold chooseV; rw [if_neg h1]; rfl
end Go.Proofs.YtlkgjffffeohdaaGreat
