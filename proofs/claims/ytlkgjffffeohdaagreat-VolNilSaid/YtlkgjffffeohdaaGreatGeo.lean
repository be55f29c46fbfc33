/- The shape of a volume: what geo's and the reference's functions answer. -/
import Derived.Test.YtlkgjffffeohdaaGreatRep
import Derived.Test.YtlkgjffffeohdaaGreatBase
set_option linter.unusedVariables false
set_option linter.unusedSimpArgs false
namespace Go.Proofs.YtlkgjffffeohdaaGreat
open Go Go.Eng Go.Proofs

structure G where
  gr : Int
  inn : Int
  gs : Int
deriving DecidableEq

def gV (g : G) : Value := .agg #[.int .i64 g.gr, .int .i64 g.inn, .int .i64 g.gs]
def gZ : G := ⟨0, 0, 0⟩
def iV (n : Int) : Value := .int .i64 n
def bV (b : Bool) : Value := .bool b

/-- can a shape be? -/
def G.ok (g : G) : Prop := 16 ≤ g.gr ∧ g.gr ≤ 128 ∧ 4 ≤ g.inn ∧ g.inn ≤ 64 ∧ g.inn % 4 = 0 ∧ 1 ≤ g.gs ∧ g.gs ≤ 16 ∧ 4 ≤ g.gr - 1 - g.inn / 4 ∧ 2 + g.gs * g.gr ≤ 4096
instance (g : G) : Decidable g.ok := by unfold G.ok; infer_instance
def G.size (g : G) : Int := if g.ok then 2 + g.gs * g.gr else 0
def G.slots (g : G) : Int := if g.ok then g.gs * g.inn else 0
def G.tables (g : G) : Int := if g.ok then g.inn / 4 else 0

theorem tmod_nn {a b : Int} (h : 0 ≤ a) : a.tmod b = a % b := Int.tmod_eq_emod_of_nonneg h
theorem tdiv_nn {a b : Int} (h : 0 ≤ a) : a.tdiv b = a / b := Int.tdiv_eq_ediv_of_nonneg h

theorem mul_small {a b : Int} (h1 : 0 ≤ a) (h2 : a ≤ 128) (h3 : 0 ≤ b) (h4 : b ≤ 128) : 0 ≤ a * b ∧ a * b ≤ 16384 := by
  refine ⟨Int.mul_nonneg h1 h3, ?_⟩
  have := Int.mul_le_mul h2 h4 h3 (by omega : (0 : Int) ≤ 128)
  omega

theorem within_ok (n lo hi : Int) (w : World) :
    Calls Tryz.prog 254 #[iV n, iV lo, iV hi] w (RetP (bV (decide (lo ≤ n ∧ n ≤ hi))) w) := by
  refine fn_pure (H0 := (fun _ => none)) (args := [iV n, iV lo, iV hi]) tabH Tryz.func254 rfl (by kernel_rfl)  (fun _ _ h => by cases h) ?_
  (conv => whnf); repeat first | (refine drw (by decide +kernel) ?_; conv => whnf) | (refine fun (_ : Nat) (_ : _ ≤ _) (_ : _ = none) => ?_; conv => whnf)
  refine vif_dec (fun h1 => ?_) (fun h1 => ?_)
  · (conv => whnf); repeat first | (refine drw (by decide +kernel) ?_; conv => whnf) | (refine fun (_ : Nat) (_ : _ ≤ _) (_ : _ = none) => ?_; conv => whnf)
    simp [bV]; omega
  · (conv => whnf); repeat first | (refine drw (by decide +kernel) ?_; conv => whnf) | (refine fun (_ : Nat) (_ : _ ≤ _) (_ : _ = none) => ?_; conv => whnf)
    simp [bV]; omega

theorem gok_iff (g : G) : g.ok ↔ (16 ≤ g.gr ∧ g.gr ≤ 128 ∧ 4 ≤ g.inn ∧ g.inn ≤ 64 ∧ g.inn % 4 = 0 ∧ 1 ≤ g.gs ∧ g.gs ≤ 16 ∧ 4 ≤ g.gr - 1 - g.inn / 4 ∧ 2 + g.gs * g.gr ≤ 4096) := Iff.rfl

theorem whole_ok (g : G) (w : World) : Calls Tryz.prog 171 #[gV g] w (RetP (gV (if g.ok then g else gZ)) w) := by
  refine fn_pure (H0 := (fun _ => none)) (args := [gV g]) tabH Tryz.func171 rfl (by kernel_rfl)  (fun _ _ h => by cases h) ?_
  have hk := gok_iff g
  (conv => whnf); repeat first | (refine drw (by decide +kernel) ?_; conv => whnf) | (refine fun (_ : Nat) (_ : _ ≤ _) (_ : _ = none) => ?_; conv => whnf)
  (refine VCall.pure_ (by kernel_rfl) (fun w hs => within_ok _ _ _ w) ?_); (conv => whnf); repeat first | (refine drw (by decide +kernel) ?_; conv => whnf) | (refine fun (_ : Nat) (_ : _ ≤ _) (_ : _ = none) => ?_; conv => whnf)
  refine vif_not (fun h1 => ?_) (fun h1 => ?_)
  · (conv => whnf); repeat first | (refine drw (by decide +kernel) ?_; conv => whnf) | (refine fun (_ : Nat) (_ : _ ≤ _) (_ : _ = none) => ?_; conv => whnf)
    rw [if_neg (by rw [hk]; omega)]; rfl
  · (conv => whnf); repeat first | (refine drw (by decide +kernel) ?_; conv => whnf) | (refine fun (_ : Nat) (_ : _ ≤ _) (_ : _ = none) => ?_; conv => whnf)
    (refine VCall.pure_ (by kernel_rfl) (fun w hs => within_ok _ _ _ w) ?_); (conv => whnf); repeat first | (refine drw (by decide +kernel) ?_; conv => whnf) | (refine fun (_ : Nat) (_ : _ ≤ _) (_ : _ = none) => ?_; conv => whnf)
    refine vif_not (fun h2 => ?_) (fun h2 => ?_)
    · (conv => whnf); repeat first | (refine drw (by decide +kernel) ?_; conv => whnf) | (refine fun (_ : Nat) (_ : _ ≤ _) (_ : _ = none) => ?_; conv => whnf)
      rw [if_neg (by rw [hk]; omega)]; rfl
    · (conv => whnf); repeat first | (refine drw (by decide +kernel) ?_; conv => whnf) | (refine fun (_ : Nat) (_ : _ ≤ _) (_ : _ = none) => ?_; conv => whnf)
      (refine VCall.pure_ (by kernel_rfl) (fun w hs => within_ok _ _ _ w) ?_); (conv => whnf); repeat first | (refine drw (by decide +kernel) ?_; conv => whnf) | (refine fun (_ : Nat) (_ : _ ≤ _) (_ : _ = none) => ?_; conv => whnf)
      refine vif_not (fun h3 => ?_) (fun h3 => ?_)
      · (conv => whnf); repeat first | (refine drw (by decide +kernel) ?_; conv => whnf) | (refine fun (_ : Nat) (_ : _ ≤ _) (_ : _ = none) => ?_; conv => whnf)
        rw [if_neg (by rw [hk]; omega)]; rfl
      · (conv => whnf); repeat first | (refine drw (by decide +kernel) ?_; conv => whnf) | (refine fun (_ : Nat) (_ : _ ≤ _) (_ : _ = none) => ?_; conv => whnf)
        refine ⟨by decide, ?_⟩
        (conv => whnf); repeat first | (refine drw (by decide +kernel) ?_; conv => whnf) | (refine fun (_ : Nat) (_ : _ ≤ _) (_ : _ = none) => ?_; conv => whnf)
        refine vif_not (fun h4 => ?_) (fun h4 => ?_)
        · (conv => whnf); repeat first | (refine drw (by decide +kernel) ?_; conv => whnf) | (refine fun (_ : Nat) (_ : _ ≤ _) (_ : _ = none) => ?_; conv => whnf)
          rw [if_neg (by rw [hk]; rw [tmod_nn (by omega)] at h4; omega)]; rfl
        · (conv => whnf); repeat first | (refine drw (by decide +kernel) ?_; conv => whnf) | (refine fun (_ : Nat) (_ : _ ≤ _) (_ : _ = none) => ?_; conv => whnf)
          refine ⟨by decide, ?_⟩
          (conv => whnf); repeat first | (refine drw (by decide +kernel) ?_; conv => whnf) | (refine fun (_ : Nat) (_ : _ ≤ _) (_ : _ = none) => ?_; conv => whnf)
          have ht : g.inn.tdiv 4 = g.inn / 4 := tdiv_nn (by omega)
          have hm : g.inn.tmod 4 = g.inn % 4 := tmod_nn (by omega)
          have hb := mul_small (a := g.gs) (b := g.gr) (by omega) (by omega) (by omega) (by omega)
          rw [ht, wrap64 (n := g.gr - 1) (by omega), wrap64 (n := g.inn / 4) (by omega), wrap64 (n := g.gr - 1 - g.inn / 4) (by omega)]
          refine vif_dec (fun h5 => ?_) (fun h5 => ?_)
          · (conv => whnf); repeat first | (refine drw (by decide +kernel) ?_; conv => whnf) | (refine fun (_ : Nat) (_ : _ ≤ _) (_ : _ = none) => ?_; conv => whnf)
            rw [if_neg (by rw [hk]; omega)]; rfl
          · (conv => whnf); repeat first | (refine drw (by decide +kernel) ?_; conv => whnf) | (refine fun (_ : Nat) (_ : _ ≤ _) (_ : _ = none) => ?_; conv => whnf)
            rw [wrap64 (n := g.gs * g.gr) (by omega), wrap64 (by omega)]
            refine vif_dec (fun h6 => ?_) (fun h6 => ?_)
            · (conv => whnf); repeat first | (refine drw (by decide +kernel) ?_; conv => whnf) | (refine fun (_ : Nat) (_ : _ ≤ _) (_ : _ = none) => ?_; conv => whnf)
              rw [if_neg (by rw [hk]; omega)]; rfl
            · (conv => whnf); repeat first | (refine drw (by decide +kernel) ?_; conv => whnf) | (refine fun (_ : Nat) (_ : _ ≤ _) (_ : _ = none) => ?_; conv => whnf)
              rw [if_pos (by rw [hk]; omega)]; rfl

def eV (n : Int) : Value := .int .i64 n

def gL (g : G) : List Value := [.int .i64 g.gr, .int .i64 g.inn, .int .i64 g.gs]
theorem gL_kv (g : G) : KV [.i64, .i64, .i64] (gL g) := KV.nil.cons.cons.cons

theorem int_eqF (d : Nat) : EqF Tryz.prog (d + 1) 3 false [.i64] := EqF_intB (by kernel_rfl) d
theorem geo_eqF (d : Nat) : EqF Tryz.prog (d + 1 + 1) 23 true [.i64, .i64, .i64] :=
  EqF_structB [(3, false, [.i64]), (3, false, [.i64]), (3, false, [.i64])] (by kernel_rfl) ⟨int_eqF d, int_eqF d, int_eqF d, trivial⟩

theorem geo_eq (g h : G) : ∀ w : World, (Op.equal 23 (gV g) (gV h)).run Tryz.prog w = .ok (decide (g = h)) w := by
  refine eq_flat (geo_eqF 9998) rfl (gL_kv g) (gL_kv h) ?_
  obtain ⟨a, b, c⟩ := g
  obtain ⟨a', b', c'⟩ := h
  simp [gL]

theorem gtables_ok (g : G) (w : World) : Calls Tryz.prog 174 #[gV g] w (RetP (iV g.tables) w) := by
  refine fn_pure (H0 := (fun _ => none)) (args := [gV g]) tabH Tryz.func174 rfl (by kernel_rfl)  (fun _ _ h => by cases h) ?_
  have hk := gok_iff g
  (conv => whnf); repeat first | (refine drw (by decide +kernel) ?_; conv => whnf) | (refine fun (_ : Nat) (_ : _ ≤ _) (_ : _ = none) => ?_; conv => whnf)
  (refine VDraw.held [1] [2] tabH mixH (by kernel_rfl) ?_ ?_); (focus ((repeat (first | exact trivial | ((conv => whnf); refine And.intro (by first | exact .inr ⟨0, _, _, rfl, rfl, rfl⟩ | exact .inr ⟨1, _, _, rfl, rfl, rfl⟩ | exact .inr ⟨2, _, _, rfl, rfl, rfl⟩ | exact .inr ⟨3, _, _, rfl, rfl, rfl⟩ | assumption) ?_))); done)); (conv => whnf); repeat (first | (refine fun (_ : Nat) (_ : _ ≤ _) (_ : _ = none) => ?_; conv => whnf) | (refine drw (by decide +kernel) ?_; conv => whnf) | (refine And.intro ?_ ?_; (focus (first | ((repeat (first | exact trivial | ((conv => whnf); refine And.intro (by first | exact .inr ⟨0, _, _, rfl, rfl, rfl⟩ | exact .inr ⟨1, _, _, rfl, rfl, rfl⟩ | exact .inr ⟨2, _, _, rfl, rfl, rfl⟩ | exact .inr ⟨3, _, _, rfl, rfl, rfl⟩ | assumption) ?_))); done) | ((conv => whnf); first | exact ⟨0, 0, _, _, _, rfl, (Nat.zero_add _).symm, rfl, rfl⟩ | exact ⟨1, 0, _, _, _, rfl, (Nat.zero_add _).symm, rfl, rfl⟩ | exact ⟨2, 0, _, _, _, rfl, (Nat.zero_add _).symm, rfl, rfl⟩ | exact ⟨3, 0, _, _, _, rfl, (Nat.zero_add _).symm, rfl, rfl⟩ | exact ⟨0, _, 0, _, _, rfl, rfl, rfl, rfl⟩ | exact ⟨1, _, 0, _, _, rfl, rfl, rfl, rfl⟩ | exact ⟨2, _, 0, _, _, rfl, rfl, rfl, rfl⟩ | exact ⟨3, _, 0, _, _, rfl, rfl, rfl, rfl⟩))); conv => whnf))
  (refine VCall.pure_ (by kernel_rfl) (fun w hs => whole_ok _ w) ?_); (conv => whnf); repeat (first | (refine fun (_ : Nat) (_ : _ ≤ _) (_ : _ = none) => ?_; conv => whnf) | (refine drw (by decide +kernel) ?_; conv => whnf) | (refine And.intro ?_ ?_; (focus (first | ((repeat (first | exact trivial | ((conv => whnf); refine And.intro (by first | exact .inr ⟨0, _, _, rfl, rfl, rfl⟩ | exact .inr ⟨1, _, _, rfl, rfl, rfl⟩ | exact .inr ⟨2, _, _, rfl, rfl, rfl⟩ | exact .inr ⟨3, _, _, rfl, rfl, rfl⟩ | assumption) ?_))); done) | ((conv => whnf); first | exact ⟨0, 0, _, _, _, rfl, (Nat.zero_add _).symm, rfl, rfl⟩ | exact ⟨1, 0, _, _, _, rfl, (Nat.zero_add _).symm, rfl, rfl⟩ | exact ⟨2, 0, _, _, _, rfl, (Nat.zero_add _).symm, rfl, rfl⟩ | exact ⟨3, 0, _, _, _, rfl, (Nat.zero_add _).symm, rfl, rfl⟩ | exact ⟨0, _, 0, _, _, rfl, rfl, rfl, rfl⟩ | exact ⟨1, _, 0, _, _, rfl, rfl, rfl, rfl⟩ | exact ⟨2, _, 0, _, _, rfl, rfl, rfl, rfl⟩ | exact ⟨3, _, 0, _, _, rfl, rfl, rfl, rfl⟩))); conv => whnf))
  refine ⟨eq_guard (by kernel_rfl), _, geo_eq _ gZ, ?_⟩
  (conv => whnf); repeat first | (refine drw (by decide +kernel) ?_; conv => whnf) | (refine fun (_ : Nat) (_ : _ ≤ _) (_ : _ = none) => ?_; conv => whnf)
  refine vif_dec (fun h1 => ?_) (fun h1 => ?_)
  · (conv => whnf); repeat first | (refine drw (by decide +kernel) ?_; conv => whnf) | (refine fun (_ : Nat) (_ : _ ≤ _) (_ : _ = none) => ?_; conv => whnf)
    have : ¬ g.ok := fun ho => by rw [if_pos ho] at h1; have h2 := (hk.1 ho); rw [h1] at h2; simp [gZ] at h2
    unfold G.tables; rw [if_neg this]; rfl
  · refine ⟨by decide, ?_⟩
    (conv => whnf); repeat first | (refine drw (by decide +kernel) ?_; conv => whnf) | (refine fun (_ : Nat) (_ : _ ≤ _) (_ : _ = none) => ?_; conv => whnf)
    have : g.ok := Classical.byContradiction fun ho => h1 (by rw [if_neg ho])
    have hh := hk.1 this
    unfold G.tables; rw [if_pos this, tdiv_nn (by omega), wrap64 (by omega)]; rfl

theorem gright_ok (g : G) (w : World) : Calls Tryz.prog 84 #[gV g] w (RetP (bV (decide g.ok)) w) := by
  refine fn_pure (H0 := (fun _ => none)) (args := [gV g]) tabH Tryz.func84 rfl (by kernel_rfl)  (fun _ _ h => by cases h) ?_
  have hk := gok_iff g
  (conv => whnf); repeat first | (refine drw (by decide +kernel) ?_; conv => whnf) | (refine fun (_ : Nat) (_ : _ ≤ _) (_ : _ = none) => ?_; conv => whnf)
  (refine VCall.pure_ (by kernel_rfl) (fun w hs => whole_ok _ w) ?_); (conv => whnf); repeat first | (refine drw (by decide +kernel) ?_; conv => whnf) | (refine fun (_ : Nat) (_ : _ ≤ _) (_ : _ = none) => ?_; conv => whnf)
  refine ⟨eq_guard (by kernel_rfl), _, geo_eq _ g, ?_⟩
  (conv => whnf); repeat first | (refine drw (by decide +kernel) ?_; conv => whnf) | (refine fun (_ : Nat) (_ : _ ≤ _) (_ : _ = none) => ?_; conv => whnf)
  have hgz : ¬ gZ.ok := by decide
  by_cases ho : g.ok
  · have hh := hk.1 ho
    rw [if_pos ho]
    refine vif_dec (fun h1 => ?_) (fun h1 => (h1 rfl).elim)
    (conv => whnf); repeat first | (refine drw (by decide +kernel) ?_; conv => whnf) | (refine fun (_ : Nat) (_ : _ ≤ _) (_ : _ = none) => ?_; conv => whnf)
    simp only [bV, ho, if_true]
    congr 2
    simp; omega
  · rw [if_neg ho]
    refine vif_dec (fun h1 => ?_) (fun h1 => ?_)
    · (conv => whnf); repeat first | (refine drw (by decide +kernel) ?_; conv => whnf) | (refine fun (_ : Nat) (_ : _ ≤ _) (_ : _ = none) => ?_; conv => whnf)
      simp [bV, gZ, ho]
    · (conv => whnf); repeat first | (refine drw (by decide +kernel) ?_; conv => whnf) | (refine fun (_ : Nat) (_ : _ ≤ _) (_ : _ = none) => ?_; conv => whnf)
      simp [bV, ho]

theorem gsize_ok (g : G) (w : World) : Calls Tryz.prog 86 #[gV g] w (RetP (iV g.size) w) := by
  refine fn_pure (H0 := (fun _ => none)) (args := [gV g]) tabH Tryz.func86 rfl (by kernel_rfl)  (fun _ _ h => by cases h) ?_
  have hk := gok_iff g
  (conv => whnf); repeat first | (refine drw (by decide +kernel) ?_; conv => whnf) | (refine fun (_ : Nat) (_ : _ ≤ _) (_ : _ = none) => ?_; conv => whnf)
  (refine VCall.pure_ (by kernel_rfl) (fun w hs => gright_ok _ w) ?_); (conv => whnf); repeat first | (refine drw (by decide +kernel) ?_; conv => whnf) | (refine fun (_ : Nat) (_ : _ ≤ _) (_ : _ = none) => ?_; conv => whnf)
  refine vif_not (fun h1 => ?_) (fun h1 => ?_)
  · (conv => whnf); repeat first | (refine drw (by decide +kernel) ?_; conv => whnf) | (refine fun (_ : Nat) (_ : _ ≤ _) (_ : _ = none) => ?_; conv => whnf)
    unfold G.size; rw [if_neg h1]; rfl
  · have hh := hk.1 h1
    have hb := mul_small (a := g.gs) (b := g.gr) (by omega) (by omega) (by omega) (by omega)
    (conv => whnf); repeat first | (refine drw (by decide +kernel) ?_; conv => whnf) | (refine fun (_ : Nat) (_ : _ ≤ _) (_ : _ = none) => ?_; conv => whnf)
    unfold G.size; rw [if_pos h1, wrap64 (n := g.gs * g.gr) (by omega), wrap64 (by omega)]; rfl

theorem gslots_ok (g : G) (w : World) : Calls Tryz.prog 108 #[gV g] w (RetP (iV g.slots) w) := by
  refine fn_pure (H0 := (fun _ => none)) (args := [gV g]) tabH Tryz.func108 rfl (by kernel_rfl)  (fun _ _ h => by cases h) ?_
  have hk := gok_iff g
  (conv => whnf); repeat first | (refine drw (by decide +kernel) ?_; conv => whnf) | (refine fun (_ : Nat) (_ : _ ≤ _) (_ : _ = none) => ?_; conv => whnf)
  (refine VCall.pure_ (by kernel_rfl) (fun w hs => whole_ok _ w) ?_); (conv => whnf); repeat first | (refine drw (by decide +kernel) ?_; conv => whnf) | (refine fun (_ : Nat) (_ : _ ≤ _) (_ : _ = none) => ?_; conv => whnf)
  unfold G.slots
  by_cases ho : g.ok
  · have hh := hk.1 ho
    have hb := mul_small (a := g.gs) (b := g.inn) (by omega) (by omega) (by omega) (by omega)
    simp only [if_pos ho]
    rw [wrap64 (by omega)]; rfl
  · simp only [if_neg ho]
    rw [wrap64 (by decide)]; rfl

def G.head (g : G) (k : Int) : Int × Int := if g.ok then (if 0 ≤ k ∧ k < g.gs then (2 + k * g.gr, 0) else (0, 3)) else (0, 1)
def v2 (p : Int × Int) : Value := .tuple #[iV p.1, iV p.2]
def v3 (p : Int × Int × Int) : Value := .tuple #[iV p.1, iV p.2.1, iV p.2.2]

theorem head_small {g : G} {k : Int} (ho : g.ok) (h1 : 0 ≤ k) (h2 : k < g.gs) : 0 ≤ k * g.gr ∧ k * g.gr + g.gr ≤ g.gs * g.gr ∧ g.gs * g.gr ≤ 4094 := by
  have hh := (gok_iff g).1 ho
  have h3 : (k + 1) * g.gr ≤ g.gs * g.gr := Int.mul_le_mul_of_nonneg_right (by omega) (by omega)
  rw [Int.add_mul, Int.one_mul] at h3
  exact ⟨Int.mul_nonneg h1 (by omega), h3, by omega⟩

theorem ghead_ok (g : G) (k : Int) (w : World) : Calls Tryz.prog 118 #[gV g, iV k] w (RetP (v2 (g.head k)) w) := by
  refine fn_pure (H0 := (fun _ => none)) (args := [gV g, iV k]) tabH Tryz.func118 rfl (by kernel_rfl)  (fun _ _ h => by cases h) ?_
  have hk := gok_iff g
  (conv => whnf); repeat first | (refine drw (by decide +kernel) ?_; conv => whnf) | (refine fun (_ : Nat) (_ : _ ≤ _) (_ : _ = none) => ?_; conv => whnf)
  (refine VCall.pure_ (by kernel_rfl) (fun w hs => gright_ok _ w) ?_); (conv => whnf); repeat first | (refine drw (by decide +kernel) ?_; conv => whnf) | (refine fun (_ : Nat) (_ : _ ≤ _) (_ : _ = none) => ?_; conv => whnf)
  refine vif_not (fun h1 => ?_) (fun h1 => ?_)
  · (conv => whnf); repeat first | (refine drw (by decide +kernel) ?_; conv => whnf) | (refine fun (_ : Nat) (_ : _ ≤ _) (_ : _ = none) => ?_; conv => whnf)
    unfold G.head; rw [if_neg h1]; rfl
  · have hh := hk.1 h1
    (conv => whnf); repeat first | (refine drw (by decide +kernel) ?_; conv => whnf) | (refine fun (_ : Nat) (_ : _ ≤ _) (_ : _ = none) => ?_; conv => whnf)
    refine vif_dec (fun h2 => ?_) (fun h2 => ?_)
    · (conv => whnf); repeat first | (refine drw (by decide +kernel) ?_; conv => whnf) | (refine fun (_ : Nat) (_ : _ ≤ _) (_ : _ = none) => ?_; conv => whnf)
      unfold G.head; rw [if_pos h1, if_neg (by omega)]; rfl
    · (conv => whnf); repeat first | (refine drw (by decide +kernel) ?_; conv => whnf) | (refine fun (_ : Nat) (_ : _ ≤ _) (_ : _ = none) => ?_; conv => whnf)
      refine vif_dec (fun h3 => ?_) (fun h3 => ?_)
      · (conv => whnf); repeat first | (refine drw (by decide +kernel) ?_; conv => whnf) | (refine fun (_ : Nat) (_ : _ ≤ _) (_ : _ = none) => ?_; conv => whnf)
        unfold G.head; rw [if_pos h1, if_neg (by omega)]; rfl
      · (conv => whnf); repeat first | (refine drw (by decide +kernel) ?_; conv => whnf) | (refine fun (_ : Nat) (_ : _ ≤ _) (_ : _ = none) => ?_; conv => whnf)
        have hb := head_small h1 (k := k) (by omega) (by omega)
        rw [wrap64 (n := k * g.gr) (by omega), wrap64 (by omega)]
        unfold G.head; rw [if_pos h1, if_pos (by omega)]; rfl

def G.place (g : G) (n : Int) : Int × Int × Int := if g.ok then (if 0 ≤ n ∧ n < g.slots then (2 + n / g.inn * g.gr + 1 + n % g.inn / 4, n % g.inn % 4, 0) else (0, 0, 3)) else (0, 0, 1)

theorem slot_small {g : G} {n : Int} (ho : g.ok) (h1 : 0 ≤ n) (h2 : n < g.slots) : 0 ≤ n / g.inn ∧ n / g.inn < g.gs ∧ 0 ≤ n % g.inn ∧ n % g.inn < g.inn := by
  have hh := (gok_iff g).1 ho
  unfold G.slots at h2
  rw [if_pos ho] at h2
  exact ⟨Int.ediv_nonneg h1 (by omega), Int.ediv_lt_of_lt_mul (by omega) h2, Int.emod_nonneg _ (by omega), Int.emod_lt_of_pos _ (by omega)⟩

theorem gplace_ok (g : G) (n : Int) (w : World) : Calls Tryz.prog 209 #[gV g, iV n] w (RetP (v3 (g.place n)) w) := by
  refine fn_pure (H0 := (fun _ => none)) (args := [gV g, iV n]) tabH Tryz.func209 rfl (by kernel_rfl)  (fun _ _ h => by cases h) ?_
  have hk := gok_iff g
  (conv => whnf); repeat first | (refine drw (by decide +kernel) ?_; conv => whnf) | (refine fun (_ : Nat) (_ : _ ≤ _) (_ : _ = none) => ?_; conv => whnf)
  (refine VCall.pure_ (by kernel_rfl) (fun w hs => gright_ok _ w) ?_); (conv => whnf); repeat first | (refine drw (by decide +kernel) ?_; conv => whnf) | (refine fun (_ : Nat) (_ : _ ≤ _) (_ : _ = none) => ?_; conv => whnf)
  refine vif_not (fun h1 => ?_) (fun h1 => ?_)
  · (conv => whnf); repeat first | (refine drw (by decide +kernel) ?_; conv => whnf) | (refine fun (_ : Nat) (_ : _ ≤ _) (_ : _ = none) => ?_; conv => whnf)
    unfold G.place; rw [if_neg h1]; rfl
  · have hh := hk.1 h1
    (conv => whnf); repeat first | (refine drw (by decide +kernel) ?_; conv => whnf) | (refine fun (_ : Nat) (_ : _ ≤ _) (_ : _ = none) => ?_; conv => whnf)
    refine vif_dec (fun h2 => ?_) (fun h2 => ?_)
    · (conv => whnf); repeat first | (refine drw (by decide +kernel) ?_; conv => whnf) | (refine fun (_ : Nat) (_ : _ ≤ _) (_ : _ = none) => ?_; conv => whnf)
      unfold G.place; rw [if_pos h1, if_neg (by omega)]; rfl
    · (conv => whnf); repeat first | (refine drw (by decide +kernel) ?_; conv => whnf) | (refine fun (_ : Nat) (_ : _ ≤ _) (_ : _ = none) => ?_; conv => whnf)
      (refine VCall.pure_ (by kernel_rfl) (fun w hs => gslots_ok _ w) ?_); (conv => whnf); repeat first | (refine drw (by decide +kernel) ?_; conv => whnf) | (refine fun (_ : Nat) (_ : _ ≤ _) (_ : _ = none) => ?_; conv => whnf)
      refine vif_dec (fun h3 => ?_) (fun h3 => ?_)
      · (conv => whnf); repeat first | (refine drw (by decide +kernel) ?_; conv => whnf) | (refine fun (_ : Nat) (_ : _ ≤ _) (_ : _ = none) => ?_; conv => whnf)
        unfold G.place; rw [if_pos h1, if_neg (by omega)]; rfl
      · have hb := slot_small h1 (n := n) (by omega) (by omega)
        have hc := head_small h1 hb.1 hb.2.1
        (conv => whnf); repeat first | (refine drw (by decide +kernel) ?_; conv => whnf) | (refine fun (_ : Nat) (_ : _ ≤ _) (_ : _ = none) => ?_; conv => whnf)
        refine ⟨by omega, ?_⟩
        (conv => whnf); repeat first | (refine drw (by decide +kernel) ?_; conv => whnf) | (refine fun (_ : Nat) (_ : _ ≤ _) (_ : _ = none) => ?_; conv => whnf)
        refine ⟨by omega, ?_⟩
        (conv => whnf); repeat first | (refine drw (by decide +kernel) ?_; conv => whnf) | (refine fun (_ : Nat) (_ : _ ≤ _) (_ : _ = none) => ?_; conv => whnf)
        rw [tdiv_nn (by omega), wrap64 (n := n / g.inn) (by omega)]
        (refine VCall.pure_ (by kernel_rfl) (fun w hs => ghead_ok _ _ w) ?_); (conv => whnf); repeat first | (refine drw (by decide +kernel) ?_; conv => whnf) | (refine fun (_ : Nat) (_ : _ ≤ _) (_ : _ = none) => ?_; conv => whnf)
        refine ⟨by decide, ?_⟩
        (conv => whnf); repeat first | (refine drw (by decide +kernel) ?_; conv => whnf) | (refine fun (_ : Nat) (_ : _ ≤ _) (_ : _ = none) => ?_; conv => whnf)
        refine ⟨by decide, ?_⟩
        (conv => whnf); repeat first | (refine drw (by decide +kernel) ?_; conv => whnf) | (refine fun (_ : Nat) (_ : _ ≤ _) (_ : _ = none) => ?_; conv => whnf)
        have e1 : g.head (n / g.inn) = (2 + n / g.inn * g.gr, 0) := by unfold G.head; rw [if_pos h1, if_pos (by omega)]
        have e2 : n.tmod g.inn = n % g.inn := tmod_nn (by omega)
        rw [e1, e2, tdiv_nn (by omega), tmod_nn (by omega), wrap64 (n := n % g.inn / 4) (by omega)]
        dsimp only
        rw [wrap64 (n := 2 + n / g.inn * g.gr + 1) (by omega), wrap64 (by omega)]
        unfold G.place; rw [if_pos h1, if_pos (by omega)]; rfl

def G.kind (g : G) (b : Int) : Int × Int :=
  if 0 ≤ b ∧ b < g.size then (if b < 2 then (1, -1) else if (b - 2) % g.gr = 0 then (2, (b - 2) / g.gr) else if (b - 2) % g.gr ≤ g.inn / 4 then (3, (b - 2) / g.gr) else (4, (b - 2) / g.gr)) else (0, -1)

theorem size_ok {g : G} {b : Int} (h1 : 0 ≤ b) (h2 : b < g.size) : g.ok := Classical.byContradiction fun ho => by
  unfold G.size at h2; rw [if_neg ho] at h2; omega

theorem gkind_ok (g : G) (b : Int) (w : World) : Calls Tryz.prog 196 #[gV g, iV b] w (RetP (v2 (g.kind b)) w) := by
  refine fn_pure (H0 := (fun _ => none)) (args := [gV g, iV b]) tabH Tryz.func196 rfl (by kernel_rfl)  (fun _ _ h => by cases h) ?_
  have hk := gok_iff g
  (conv => whnf); repeat first | (refine drw (by decide +kernel) ?_; conv => whnf) | (refine fun (_ : Nat) (_ : _ ≤ _) (_ : _ = none) => ?_; conv => whnf)
  refine vif_dec (fun h2 => ?_) (fun h2 => ?_)
  · (conv => whnf); repeat first | (refine drw (by decide +kernel) ?_; conv => whnf) | (refine fun (_ : Nat) (_ : _ ≤ _) (_ : _ = none) => ?_; conv => whnf)
    unfold G.kind; rw [if_neg (by omega)]; rfl
  · (conv => whnf); repeat first | (refine drw (by decide +kernel) ?_; conv => whnf) | (refine fun (_ : Nat) (_ : _ ≤ _) (_ : _ = none) => ?_; conv => whnf)
    (refine VCall.pure_ (by kernel_rfl) (fun w hs => gsize_ok _ w) ?_); (conv => whnf); repeat first | (refine drw (by decide +kernel) ?_; conv => whnf) | (refine fun (_ : Nat) (_ : _ ≤ _) (_ : _ = none) => ?_; conv => whnf)
    refine vif_dec (fun h3 => ?_) (fun h3 => ?_)
    · (conv => whnf); repeat first | (refine drw (by decide +kernel) ?_; conv => whnf) | (refine fun (_ : Nat) (_ : _ ≤ _) (_ : _ = none) => ?_; conv => whnf)
      unfold G.kind; rw [if_neg (by omega)]; rfl
    · have ho := size_ok (g := g) (b := b) (by omega) (by omega)
      have hh := hk.1 ho
      have hs : b < 4096 + 2 := by have : g.size = 2 + g.gs * g.gr := by unfold G.size; rw [if_pos ho]
                                   omega
      (conv => whnf); repeat first | (refine drw (by decide +kernel) ?_; conv => whnf) | (refine fun (_ : Nat) (_ : _ ≤ _) (_ : _ = none) => ?_; conv => whnf)
      refine vif_dec (fun h4 => ?_) (fun h4 => ?_)
      · (conv => whnf); repeat first | (refine drw (by decide +kernel) ?_; conv => whnf) | (refine fun (_ : Nat) (_ : _ ≤ _) (_ : _ = none) => ?_; conv => whnf)
        unfold G.kind; rw [if_pos (by omega), if_pos h4]; rfl
      · have hd : 0 ≤ (b - 2) / g.gr ∧ (b - 2) / g.gr ≤ b - 2 := ⟨Int.ediv_nonneg (by omega) (by omega), Int.ediv_le_self _ (by omega)⟩
        have hm : 0 ≤ (b - 2) % g.gr ∧ (b - 2) % g.gr < g.gr := ⟨Int.emod_nonneg _ (by omega), Int.emod_lt_of_pos _ (by omega)⟩
        have ht : g.tables = g.inn / 4 := by unfold G.tables; rw [if_pos ho]
        (conv => whnf); repeat first | (refine drw (by decide +kernel) ?_; conv => whnf) | (refine fun (_ : Nat) (_ : _ ≤ _) (_ : _ = none) => ?_; conv => whnf)
        refine ⟨by omega, ?_⟩
        (conv => whnf); repeat first | (refine drw (by decide +kernel) ?_; conv => whnf) | (refine fun (_ : Nat) (_ : _ ≤ _) (_ : _ = none) => ?_; conv => whnf)
        refine ⟨by omega, ?_⟩
        (conv => whnf); repeat first | (refine drw (by decide +kernel) ?_; conv => whnf) | (refine fun (_ : Nat) (_ : _ ≤ _) (_ : _ = none) => ?_; conv => whnf)
        rw [wrap64 (n := b - 2) (by omega), tdiv_nn (by omega), tmod_nn (by omega), wrap64 (n := (b - 2) / g.gr) (by omega)]
        refine vif_dec (fun h5 => ?_) (fun h5 => ?_)
        · (conv => whnf); repeat first | (refine drw (by decide +kernel) ?_; conv => whnf) | (refine fun (_ : Nat) (_ : _ ≤ _) (_ : _ = none) => ?_; conv => whnf)
          unfold G.kind; rw [if_pos (by omega), if_neg h4, if_pos h5]; rfl
        · (conv => whnf); repeat first | (refine drw (by decide +kernel) ?_; conv => whnf) | (refine fun (_ : Nat) (_ : _ ≤ _) (_ : _ = none) => ?_; conv => whnf)
          (refine VCall.pure_ (by kernel_rfl) (fun w hs => gtables_ok _ w) ?_); (conv => whnf); repeat first | (refine drw (by decide +kernel) ?_; conv => whnf) | (refine fun (_ : Nat) (_ : _ ≤ _) (_ : _ = none) => ?_; conv => whnf)
          refine vif_dec (fun h6 => ?_) (fun h6 => ?_)
          · (conv => whnf); repeat first | (refine drw (by decide +kernel) ?_; conv => whnf) | (refine fun (_ : Nat) (_ : _ ≤ _) (_ : _ = none) => ?_; conv => whnf)
            unfold G.kind; rw [if_pos (by omega), if_neg h4, if_neg h5, if_pos (by omega)]; rfl
          · (conv => whnf); repeat first | (refine drw (by decide +kernel) ?_; conv => whnf) | (refine fun (_ : Nat) (_ : _ ≤ _) (_ : _ = none) => ?_; conv => whnf)
            unfold G.kind; rw [if_pos (by omega), if_neg h4, if_neg h5, if_neg (by omega)]; rfl

def G.of (g : G) (n : Int) : Int := if 0 ≤ n ∧ n < g.slots then n / g.inn else -1
theorem slots_ok {g : G} {n : Int} (h1 : 0 ≤ n) (h2 : n < g.slots) : g.ok := Classical.byContradiction fun ho => by
  unfold G.slots at h2; rw [if_neg ho] at h2; omega

theorem gof_ok (g : G) (n : Int) (w : World) : Calls Tryz.prog 199 #[gV g, iV n] w (RetP (iV (g.of n)) w) := by
  refine fn_pure (H0 := (fun _ => none)) (args := [gV g, iV n]) tabH Tryz.func199 rfl (by kernel_rfl)  (fun _ _ h => by cases h) ?_
  have hk := gok_iff g
  (conv => whnf); repeat first | (refine drw (by decide +kernel) ?_; conv => whnf) | (refine fun (_ : Nat) (_ : _ ≤ _) (_ : _ = none) => ?_; conv => whnf)
  refine vif_dec (fun h2 => ?_) (fun h2 => ?_)
  · (conv => whnf); repeat first | (refine drw (by decide +kernel) ?_; conv => whnf) | (refine fun (_ : Nat) (_ : _ ≤ _) (_ : _ = none) => ?_; conv => whnf)
    unfold G.of; rw [if_neg (by omega)]; rfl
  · (conv => whnf); repeat first | (refine drw (by decide +kernel) ?_; conv => whnf) | (refine fun (_ : Nat) (_ : _ ≤ _) (_ : _ = none) => ?_; conv => whnf)
    (refine VCall.pure_ (by kernel_rfl) (fun w hs => gslots_ok _ w) ?_); (conv => whnf); repeat first | (refine drw (by decide +kernel) ?_; conv => whnf) | (refine fun (_ : Nat) (_ : _ ≤ _) (_ : _ = none) => ?_; conv => whnf)
    refine vif_dec (fun h3 => ?_) (fun h3 => ?_)
    · (conv => whnf); repeat first | (refine drw (by decide +kernel) ?_; conv => whnf) | (refine fun (_ : Nat) (_ : _ ≤ _) (_ : _ = none) => ?_; conv => whnf)
      unfold G.of; rw [if_neg (by omega)]; rfl
    · have ho := slots_ok (g := g) (n := n) (by omega) (by omega)
      have hh := hk.1 ho
      have hb := slot_small ho (n := n) (by omega) (by omega)
      (conv => whnf); repeat first | (refine drw (by decide +kernel) ?_; conv => whnf) | (refine fun (_ : Nat) (_ : _ ≤ _) (_ : _ = none) => ?_; conv => whnf)
      refine ⟨by omega, ?_⟩
      (conv => whnf); repeat first | (refine drw (by decide +kernel) ?_; conv => whnf) | (refine fun (_ : Nat) (_ : _ ≤ _) (_ : _ = none) => ?_; conv => whnf)
      rw [tdiv_nn (by omega), wrap64 (by omega)]
      unfold G.of; rw [if_pos (by omega)]; rfl

def G.range (g : G) (k : Int) : Int × Int := if g.ok ∧ 0 ≤ k ∧ k < g.gs then (2 + k * g.gr + 1 + g.inn / 4, 2 + k * g.gr + g.gr) else (0, 0)

theorem grange_ok (g : G) (k : Int) (w : World) : Calls Tryz.prog 123 #[gV g, iV k] w (RetP (v2 (g.range k)) w) := by
  refine fn_pure (H0 := (fun _ => none)) (args := [gV g, iV k]) tabH Tryz.func123 rfl (by kernel_rfl)  (fun _ _ h => by cases h) ?_
  have hk := gok_iff g
  (conv => whnf); repeat first | (refine drw (by decide +kernel) ?_; conv => whnf) | (refine fun (_ : Nat) (_ : _ ≤ _) (_ : _ = none) => ?_; conv => whnf)
  (refine VCall.pure_ (by kernel_rfl) (fun w hs => ghead_ok _ _ w) ?_); (conv => whnf); repeat first | (refine drw (by decide +kernel) ?_; conv => whnf) | (refine fun (_ : Nat) (_ : _ ≤ _) (_ : _ = none) => ?_; conv => whnf)
  refine vif_not (fun h1 => ?_) (fun h1 => ?_)
  · (conv => whnf); repeat first | (refine drw (by decide +kernel) ?_; conv => whnf) | (refine fun (_ : Nat) (_ : _ ≤ _) (_ : _ = none) => ?_; conv => whnf)
    unfold G.range; rw [if_neg ?_]; rfl
    rintro ⟨ho, h2⟩
    unfold G.head at h1; rw [if_pos ho, if_pos h2] at h1; exact h1 rfl
  · have ho : g.ok ∧ 0 ≤ k ∧ k < g.gs := by
      unfold G.head at h1
      split at h1
      · split at h1
        · exact ⟨by assumption, by assumption⟩
        · simp at h1
      · simp at h1
    have hh := hk.1 ho.1
    have hc := head_small ho.1 ho.2.1 ho.2.2
    have e1 : g.head k = (2 + k * g.gr, 0) := by unfold G.head; rw [if_pos ho.1, if_pos ho.2]
    have ht : g.tables = g.inn / 4 := by unfold G.tables; rw [if_pos ho.1]
    (conv => whnf); repeat first | (refine drw (by decide +kernel) ?_; conv => whnf) | (refine fun (_ : Nat) (_ : _ ≤ _) (_ : _ = none) => ?_; conv => whnf)
    (refine VDraw.held [0] [7] tabH mixH (by kernel_rfl) ?_ ?_); (focus ((repeat (first | exact trivial | ((conv => whnf); refine And.intro (by first | exact .inr ⟨0, _, _, rfl, rfl, rfl⟩ | exact .inr ⟨1, _, _, rfl, rfl, rfl⟩ | exact .inr ⟨2, _, _, rfl, rfl, rfl⟩ | exact .inr ⟨3, _, _, rfl, rfl, rfl⟩ | assumption) ?_))); done)); (conv => whnf); repeat (first | (refine fun (_ : Nat) (_ : _ ≤ _) (_ : _ = none) => ?_; conv => whnf) | (refine drw (by decide +kernel) ?_; conv => whnf) | (refine And.intro ?_ ?_; (focus (first | ((repeat (first | exact trivial | ((conv => whnf); refine And.intro (by first | exact .inr ⟨0, _, _, rfl, rfl, rfl⟩ | exact .inr ⟨1, _, _, rfl, rfl, rfl⟩ | exact .inr ⟨2, _, _, rfl, rfl, rfl⟩ | exact .inr ⟨3, _, _, rfl, rfl, rfl⟩ | assumption) ?_))); done) | ((conv => whnf); first | exact ⟨0, 0, _, _, _, rfl, (Nat.zero_add _).symm, rfl, rfl⟩ | exact ⟨1, 0, _, _, _, rfl, (Nat.zero_add _).symm, rfl, rfl⟩ | exact ⟨2, 0, _, _, _, rfl, (Nat.zero_add _).symm, rfl, rfl⟩ | exact ⟨3, 0, _, _, _, rfl, (Nat.zero_add _).symm, rfl, rfl⟩ | exact ⟨0, _, 0, _, _, rfl, rfl, rfl, rfl⟩ | exact ⟨1, _, 0, _, _, rfl, rfl, rfl, rfl⟩ | exact ⟨2, _, 0, _, _, rfl, rfl, rfl, rfl⟩ | exact ⟨3, _, 0, _, _, rfl, rfl, rfl, rfl⟩))); conv => whnf))
    (refine VCall.pure_ (by kernel_rfl) (fun w hs => gtables_ok _ w) ?_); (conv => whnf); repeat (first | (refine fun (_ : Nat) (_ : _ ≤ _) (_ : _ = none) => ?_; conv => whnf) | (refine drw (by decide +kernel) ?_; conv => whnf) | (refine And.intro ?_ ?_; (focus (first | ((repeat (first | exact trivial | ((conv => whnf); refine And.intro (by first | exact .inr ⟨0, _, _, rfl, rfl, rfl⟩ | exact .inr ⟨1, _, _, rfl, rfl, rfl⟩ | exact .inr ⟨2, _, _, rfl, rfl, rfl⟩ | exact .inr ⟨3, _, _, rfl, rfl, rfl⟩ | assumption) ?_))); done) | ((conv => whnf); first | exact ⟨0, 0, _, _, _, rfl, (Nat.zero_add _).symm, rfl, rfl⟩ | exact ⟨1, 0, _, _, _, rfl, (Nat.zero_add _).symm, rfl, rfl⟩ | exact ⟨2, 0, _, _, _, rfl, (Nat.zero_add _).symm, rfl, rfl⟩ | exact ⟨3, 0, _, _, _, rfl, (Nat.zero_add _).symm, rfl, rfl⟩ | exact ⟨0, _, 0, _, _, rfl, rfl, rfl, rfl⟩ | exact ⟨1, _, 0, _, _, rfl, rfl, rfl, rfl⟩ | exact ⟨2, _, 0, _, _, rfl, rfl, rfl, rfl⟩ | exact ⟨3, _, 0, _, _, rfl, rfl, rfl, rfl⟩))); conv => whnf))
    rw [e1, ht]
    dsimp only
    rw [wrap64 (n := 2 + k * g.gr + 1) (by omega), wrap64 (n := 2 + k * g.gr + 1 + g.inn / 4) (by omega), wrap64 (n := 2 + k * g.gr + g.gr) (by omega)]
    unfold G.range; rw [if_pos ho]; rfl
end Go.Proofs.YtlkgjffffeohdaaGreat
