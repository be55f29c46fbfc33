/- Inodes as bytes. -/
import Derived.Test.YtlkgjffffeohdaaGreatSum
set_option linter.unusedVariables false
set_option linter.unusedSimpArgs false
namespace Go.Proofs.YtlkgjffffeohdaaGreat
open Go Go.Eng Go.Proofs

structure Nd where
  k : Int
  l : Int
  s : Int
  d : Int
  p0 : Int
  p1 : Int
  p2 : Int
  p3 : Int
  p4 : Int
  p5 : Int
  a : Int
  b : Int
deriving DecidableEq

def Nd.is (n : Nd) : List Int := [n.k, n.l, n.s, n.d, n.p0, n.p1, n.p2, n.p3, n.p4, n.p5, n.a, n.b]
def Nd.all (n : Nd) : List Int := [n.p0, n.p1, n.p2, n.p3, n.p4, n.p5, n.a, n.b]
def nZ : Nd := ⟨0, 0, 0, 0, 0, 0, 0, 0, 0, 0, 0, 0⟩
def nV (n : Nd) : Value := .agg ⟨intsV n.is⟩

theorem ndCell {H : HV} {r : Nat} {n : Nd} (ho : IO_ H r n.is) (i : Nat) (hi : Nat.blt i 12 = true) : RdC H r i (.int .i64 (n.is.getD i 0)) := ho.cell i (by rw [Nat.blt_eq] at hi; exact hi)

theorem iall_ok (n : Nd) (w : World) : Calls Tryz.prog 213 #[nV n] w (RetP (.agg ⟨intsV n.all⟩) w) := by
  refine fn_pure (H0 := (fun _ => none)) (args := [nV n]) tabH Tryz.func213 rfl (by kernel_rfl)  (fun _ _ h => by cases h) ?_
  (conv => whnf); repeat first | (refine drw (by decide +kernel) ?_; conv => whnf) | (refine fun (_ : Nat) (_ : _ ≤ _) (_ : _ = none) => ?_; conv => whnf)
  intro r1 H1 hB1 hN1 hE1
  have ho1 : IO_ H1 r1 n.is := ⟨_, hE1.new⟩
  (conv => whnf); repeat first | (refine drw (by decide +kernel) ?_; conv => whnf) | (refine fun (_ : Nat) (_ : _ ≤ _) (_ : _ = none) => ?_; conv => whnf)
  intro r2 H2 hB2 hN2 hE2
  have ho12 := ho1.mono (fun o ho => hE2.old _ _ ho)
  have n12 : r1 ≠ r2 := fun e => by subst e; rw [hE1.new] at hN2; cases hN2
  (conv => whnf); repeat first | (refine drw (by decide +kernel) ?_; conv => whnf) | (refine fun (_ : Nat) (_ : _ ≤ _) (_ : _ = none) => ?_; conv => whnf)
  intro r3 H3 hB3 hN3 hE3
  have ho13 := ho12.mono (fun o ho => hE3.old _ _ ho)
  have n13 : r1 ≠ r3 := fun e => by subst e; obtain ⟨_, h⟩ := ho12; rw [h] at hN3; cases hN3
  have n23 : r2 ≠ r3 := fun e => by subst e; rw [hE2.new] at hN3; cases hN3
  have ho2 : IO_ H3 r2 (List.replicate 8 0) := ⟨_, hE3.old _ _ hE2.new⟩
  have ho3 : IO_ H3 r3 (List.replicate 8 0) := ⟨_, hE3.new⟩
  (conv => whnf); repeat first | (refine drw (by decide +kernel) ?_; conv => whnf) | (refine fun (_ : Nat) (_ : _ ≤ _) (_ : _ = none) => ?_; conv => whnf)
  refine ⟨intsV [n.p0, n.p1, n.p2, n.p3, n.p4, n.p5], ho13.rd 4 6 6 6 (by show 10 ≤ 12; decide), IO_.store ho3 [n.p0, n.p1, n.p2, n.p3, n.p4, n.p5] 0 (Nat.le_of_ble_eq_true rfl) (.inr hB3) ?_⟩
  intro H4 hk4 ho34
  have ho14 := ho13.mono (fun o ho => hk4 _ _ n13 ho)
  have ho24 := ho2.mono (fun o ho => hk4 _ _ n23 ho)
  (conv => whnf); repeat first | (refine drw (by decide +kernel) ?_; conv => whnf) | (refine fun (_ : Nat) (_ : _ ≤ _) (_ : _ = none) => ?_; conv => whnf)
  refine ⟨.int .i64 n.a, ndCell ho14 10 rfl, ?_⟩
  (conv => whnf); repeat first | (refine drw (by decide +kernel) ?_; conv => whnf) | (refine fun (_ : Nat) (_ : _ ≤ _) (_ : _ = none) => ?_; conv => whnf)
  refine ⟨.int .i64 n.b, ndCell ho14 11 rfl, ?_⟩
  (conv => whnf); repeat first | (refine drw (by decide +kernel) ?_; conv => whnf) | (refine fun (_ : Nat) (_ : _ ≤ _) (_ : _ = none) => ?_; conv => whnf)
  refine ⟨⟨by decide, by decide⟩, ?_⟩
  (conv => whnf); repeat first | (refine drw (by decide +kernel) ?_; conv => whnf) | (refine fun (_ : Nat) (_ : _ ≤ _) (_ : _ = none) => ?_; conv => whnf)
  refine ⟨rfl, IO_.store ho34 [n.a] 6 (Nat.le_of_ble_eq_true rfl) (.inr hB3) ?_⟩
  intro H5 hk5 ho35
  have ho25 := ho24.mono (fun o ho => hk5 _ _ n23 ho)
  (conv => whnf); repeat first | (refine drw (by decide +kernel) ?_; conv => whnf) | (refine fun (_ : Nat) (_ : _ ≤ _) (_ : _ = none) => ?_; conv => whnf)
  refine ⟨⟨by decide, by decide⟩, ?_⟩
  (conv => whnf); repeat first | (refine drw (by decide +kernel) ?_; conv => whnf) | (refine fun (_ : Nat) (_ : _ ≤ _) (_ : _ = none) => ?_; conv => whnf)
  refine ⟨rfl, IO_.store ho35 [n.b] 7 (Nat.le_of_ble_eq_true rfl) (.inr hB3) ?_⟩
  intro H6 hk6 ho36
  have ho26 := ho25.mono (fun o ho => hk6 _ _ n23 ho)
  have ho36' : IO_ H6 r3 n.all := ho36
  (conv => whnf); repeat first | (refine drw (by decide +kernel) ?_; conv => whnf) | (refine fun (_ : Nat) (_ : _ ≤ _) (_ : _ = none) => ?_; conv => whnf)
  refine ⟨_, ho36'.all rfl, ?_⟩
  (conv => whnf); repeat first | (refine drw (by decide +kernel) ?_; conv => whnf) | (refine fun (_ : Nat) (_ : _ ≤ _) (_ : _ = none) => ?_; conv => whnf)
  refine ⟨rfl, IO_.store ho26 n.all 0 (Nat.le_of_ble_eq_true rfl) (.inr hB2) ?_⟩
  intro H7 hk7 ho27
  have ho27' : IO_ H7 r2 n.all := ho27
  (conv => whnf); repeat first | (refine drw (by decide +kernel) ?_; conv => whnf) | (refine fun (_ : Nat) (_ : _ ≤ _) (_ : _ = none) => ?_; conv => whnf)
  exact ⟨_, ho27'.all rfl, rfl⟩

def Nd.sized (n : Nd) : Bool := decide (0 ≤ n.l ∧ n.l ≤ 1000 ∧ 0 ≤ n.s ∧ n.s ≤ 1066496 ∧ 1 ≤ n.d ∧ n.d ≤ 4611686018427387904)

theorem isized_ok (n : Nd) (w : World) : Calls Tryz.prog 271 #[nV n] w (RetP (bV n.sized) w) := by
  refine fn_pure (H0 := (fun _ => none)) (args := [nV n]) tabH Tryz.func271 rfl (by kernel_rfl)  (fun _ _ h => by cases h) ?_
  (conv => whnf); repeat first | (refine drw (by decide +kernel) ?_; conv => whnf) | (refine fun (_ : Nat) (_ : _ ≤ _) (_ : _ = none) => ?_; conv => whnf)
  intro r1 H1 hB1 hN1 hE1
  have ho1 : IO_ H1 r1 n.is := ⟨_, hE1.new⟩
  have no : ¬ (0 ≤ n.l ∧ n.l ≤ 1000 ∧ 0 ≤ n.s ∧ n.s ≤ 1066496 ∧ 1 ≤ n.d ∧ n.d ≤ 4611686018427387904) → bV n.sized = .bool false := fun h => by unfold Nd.sized; rw [decide_eq_false h]; rfl
  (conv => whnf); repeat first | (refine drw (by decide +kernel) ?_; conv => whnf) | (refine fun (_ : Nat) (_ : _ ≤ _) (_ : _ = none) => ?_; conv => whnf)
  refine ⟨.int .i64 n.l, ndCell ho1 1 rfl, ?_⟩
  (conv => whnf); repeat first | (refine drw (by decide +kernel) ?_; conv => whnf) | (refine fun (_ : Nat) (_ : _ ≤ _) (_ : _ = none) => ?_; conv => whnf)
  refine vif_dec (fun h0 => ?_) (fun h0 => ?_)
  rotate_left
  · (conv => whnf); repeat first | (refine drw (by decide +kernel) ?_; conv => whnf) | (refine fun (_ : Nat) (_ : _ ≤ _) (_ : _ = none) => ?_; conv => whnf)
    rw [no (by omega)]
  (conv => whnf); repeat first | (refine drw (by decide +kernel) ?_; conv => whnf) | (refine fun (_ : Nat) (_ : _ ≤ _) (_ : _ = none) => ?_; conv => whnf)
  refine ⟨.int .i64 n.l, ndCell ho1 1 rfl, ?_⟩
  (conv => whnf); repeat first | (refine drw (by decide +kernel) ?_; conv => whnf) | (refine fun (_ : Nat) (_ : _ ≤ _) (_ : _ = none) => ?_; conv => whnf)
  refine vif_dec (fun h1 => ?_) (fun h1 => ?_)
  rotate_left
  · (conv => whnf); repeat first | (refine drw (by decide +kernel) ?_; conv => whnf) | (refine fun (_ : Nat) (_ : _ ≤ _) (_ : _ = none) => ?_; conv => whnf)
    rw [no (by omega)]
  (conv => whnf); repeat first | (refine drw (by decide +kernel) ?_; conv => whnf) | (refine fun (_ : Nat) (_ : _ ≤ _) (_ : _ = none) => ?_; conv => whnf)
  refine ⟨.int .i64 n.s, ndCell ho1 2 rfl, ?_⟩
  (conv => whnf); repeat first | (refine drw (by decide +kernel) ?_; conv => whnf) | (refine fun (_ : Nat) (_ : _ ≤ _) (_ : _ = none) => ?_; conv => whnf)
  refine vif_dec (fun h2 => ?_) (fun h2 => ?_)
  rotate_left
  · (conv => whnf); repeat first | (refine drw (by decide +kernel) ?_; conv => whnf) | (refine fun (_ : Nat) (_ : _ ≤ _) (_ : _ = none) => ?_; conv => whnf)
    rw [no (by omega)]
  (conv => whnf); repeat first | (refine drw (by decide +kernel) ?_; conv => whnf) | (refine fun (_ : Nat) (_ : _ ≤ _) (_ : _ = none) => ?_; conv => whnf)
  refine ⟨.int .i64 n.s, ndCell ho1 2 rfl, ?_⟩
  (conv => whnf); repeat first | (refine drw (by decide +kernel) ?_; conv => whnf) | (refine fun (_ : Nat) (_ : _ ≤ _) (_ : _ = none) => ?_; conv => whnf)
  refine vif_dec (fun h3 => ?_) (fun h3 => ?_)
  rotate_left
  · (conv => whnf); repeat first | (refine drw (by decide +kernel) ?_; conv => whnf) | (refine fun (_ : Nat) (_ : _ ≤ _) (_ : _ = none) => ?_; conv => whnf)
    rw [no (by omega)]
  (conv => whnf); repeat first | (refine drw (by decide +kernel) ?_; conv => whnf) | (refine fun (_ : Nat) (_ : _ ≤ _) (_ : _ = none) => ?_; conv => whnf)
  refine ⟨.int .i64 n.d, ndCell ho1 3 rfl, ?_⟩
  (conv => whnf); repeat first | (refine drw (by decide +kernel) ?_; conv => whnf) | (refine fun (_ : Nat) (_ : _ ≤ _) (_ : _ = none) => ?_; conv => whnf)
  refine vif_dec (fun h4 => ?_) (fun h4 => ?_)
  rotate_left
  · (conv => whnf); repeat first | (refine drw (by decide +kernel) ?_; conv => whnf) | (refine fun (_ : Nat) (_ : _ ≤ _) (_ : _ = none) => ?_; conv => whnf)
    rw [no (by omega)]
  (conv => whnf); repeat first | (refine drw (by decide +kernel) ?_; conv => whnf) | (refine fun (_ : Nat) (_ : _ ≤ _) (_ : _ = none) => ?_; conv => whnf)
  refine ⟨.int .i64 n.d, ndCell ho1 3 rfl, ?_⟩
  (conv => whnf); repeat first | (refine drw (by decide +kernel) ?_; conv => whnf) | (refine fun (_ : Nat) (_ : _ ≤ _) (_ : _ = none) => ?_; conv => whnf)
  unfold Nd.sized bV
  exact congrArg Value.bool (decide_eq_decide.2 ⟨fun h => by omega, fun h => by omega⟩)

theorem n12_eqF (d : Nat) : EqF Tryz.prog (d + 1 + 1 + 1) 80 true (List.replicate 12 .i64) :=
  EqF_structB [(3, false, [.i64]), (3, false, [.i64]), (2, false, [.i64]), (2, false, [.i64]), (78, true, (List.replicate 6 [.i64]).flatten), (3, false, [.i64]), (3, false, [.i64])] (by kernel_rfl)
    ⟨EqF_intB (by kernel_rfl) _, EqF_intB (by kernel_rfl) _, EqF_intB (by kernel_rfl) _, EqF_intB (by kernel_rfl) _, EqF_arrayB (n := 6) (e := 3) (by kernel_rfl) (EqF_intB (by kernel_rfl) d), EqF_intB (by kernel_rfl) _, EqF_intB (by kernel_rfl) _, trivial⟩

theorem nd_eq (n m : Nd) : ∀ w : World, (Op.equal 80 (nV n) (nV m)).run Tryz.prog w = .ok (decide (n = m)) w := by
  refine eq_flat (n12_eqF 9997) rfl (KV_ints n.is) (KV_ints m.is) ?_
  obtain ⟨a1, a2, a3, a4, a5, a6, a7, a8, a9, b1, b2, b3⟩ := n
  obtain ⟨c1, c2, c3, c4, c5, c6, c7, c8, c9, d1, d2, d3⟩ := m
  simp [intsV, Nd.is]

def in4096 (x : Int) : Bool := decide (0 ≤ x ∧ x < 4096)

/-- can an inode be? -/
def Nd.right (n : Nd) : Bool := n.all.all in4096 && (if n.k = 0 then decide (n = nZ) else if n.k = 2 then n.sized && decide (n.s % 256 = 0) else if n.k = 1 then n.sized else if n.k = 3 then n.sized && decide (1 ≤ n.s ∧ n.s ≤ 255) else false)

theorem iright_ok (n : Nd) (w : World) : Calls Tryz.prog 212 #[nV n] w (RetP (bV n.right) w) := by
  refine fn_pure (H0 := (fun _ => none)) (args := [nV n]) tabH Tryz.func212 rfl (by kernel_rfl)  (fun _ _ h => by cases h) ?_
  (conv => whnf); repeat first | (refine drw (by decide +kernel) ?_; conv => whnf) | (refine fun (_ : Nat) (_ : _ ≤ _) (_ : _ = none) => ?_; conv => whnf)
  intro r1 H1 hB1 hN1 hE1
  have ho1 : IO_ H1 r1 n.is := ⟨_, hE1.new⟩
  (conv => whnf); repeat first | (refine drw (by decide +kernel) ?_; conv => whnf) | (refine fun (_ : Nat) (_ : _ ≤ _) (_ : _ = none) => ?_; conv => whnf)
  refine ⟨_, ho1.all rfl, ?_⟩
  (conv => whnf); repeat first | (refine drw (by decide +kernel) ?_; conv => whnf) | (refine fun (_ : Nat) (_ : _ ≤ _) (_ : _ = none) => ?_; conv => whnf)
  (refine VCall.pure_ (by kernel_rfl) (fun w hs => iall_ok n w) ?_); (conv => whnf); repeat first | (refine drw (by decide +kernel) ?_; conv => whnf) | (refine fun (_ : Nat) (_ : _ ≤ _) (_ : _ = none) => ?_; conv => whnf)
  refine VLoop.ok (X := Nat) (fun x => [(8, .v (.int .i64 x)), (7, .v (.agg ⟨intsV n.all⟩)), (1, .v (.pointer (some ⟨r1, 0, none⟩))), (2, .v (.bool false))]) (fun _ => H1)
    (fun x => x ≤ 8 ∧ ∀ j, j < x → in4096 (n.all.getD j 0) = true) (fun x => 8 - x) tabH (by kernel_rfl) rfl (fun _ => rfl) 0 ⟨Nat.zero_le _, fun j hj => by omega⟩ ⟨rfl, rfl, rfl, rfl, trivial⟩ rfl ?_
  rintro x ⟨hx1, hx2⟩
  (conv => whnf); repeat first | (refine drw (by decide +kernel) ?_; conv => whnf) | (refine fun (_ : Nat) (_ : _ ≤ _) (_ : _ = none) => ?_; conv => whnf)
  refine vif_dec (fun h1 => ?_) (fun h1 => ?_)
  · have nx : IntKind.wrap .i64 ((x : Int) + 1) = ((x + 1 : Nat) : Int) := by rw [wrap64 (by omega)]; rfl
    (conv => whnf); repeat first | (refine drw (by decide +kernel) ?_; conv => whnf) | (refine fun (_ : Nat) (_ : _ ≤ _) (_ : _ = none) => ?_; conv => whnf)
    refine ⟨⟨by omega, by omega⟩, ?_⟩
    (conv => whnf); repeat first | (refine drw (by decide +kernel) ?_; conv => whnf) | (refine fun (_ : Nat) (_ : _ ≤ _) (_ : _ = none) => ?_; conv => whnf)
    refine ⟨_, idx_ints n.all x (by show x < 8; omega), ?_⟩
    (conv => whnf); repeat first | (refine drw (by decide +kernel) ?_; conv => whnf) | (refine fun (_ : Nat) (_ : _ ≤ _) (_ : _ = none) => ?_; conv => whnf)
    have bad : ¬ in4096 (n.all.getD x 0) = true → Value.bool false = bV n.right := fun h => by
      unfold Nd.right
      have : n.all.all in4096 = false := by
        rw [List.all_eq_false]
        exact ⟨n.all.getD x 0, by
          rw [List.getD, List.getElem?_eq_getElem (show x < n.all.length by show x < 8; omega)]
          exact List.getElem_mem _, h⟩
      rw [this]; rfl
    refine vif_dec (fun h2 => ?_) (fun h2 => ?_)
    · (conv => whnf); repeat first | (refine drw (by decide +kernel) ?_; conv => whnf) | (refine fun (_ : Nat) (_ : _ ≤ _) (_ : _ = none) => ?_; conv => whnf)
      exact bad (by unfold in4096; rw [decide_eq_true_iff]; omega)
    · (conv => whnf); repeat first | (refine drw (by decide +kernel) ?_; conv => whnf) | (refine fun (_ : Nat) (_ : _ ≤ _) (_ : _ = none) => ?_; conv => whnf)
      refine vif_dec (fun h3 => ?_) (fun h3 => ?_)
      · (conv => whnf); repeat first | (refine drw (by decide +kernel) ?_; conv => whnf) | (refine fun (_ : Nat) (_ : _ ≤ _) (_ : _ = none) => ?_; conv => whnf)
        exact bad (by unfold in4096; rw [decide_eq_true_iff]; omega)
      · (conv => whnf); repeat first | (refine drw (by decide +kernel) ?_; conv => whnf) | (refine fun (_ : Nat) (_ : _ ≤ _) (_ : _ = none) => ?_; conv => whnf)
        refine ⟨x + 1, ⟨by omega, fun j hj => ?_⟩, by omega, ⟨congrArg (fun n => some (SV.v (.int .i64 n))) nx, rfl, rfl, rfl, trivial⟩, ⟨[], rfl⟩, rfl⟩
        by_cases hjx : j = x
        · subst hjx; unfold in4096; rw [decide_eq_true_iff]; omega
        · exact hx2 j (by omega)
  · have hall : n.all.all in4096 = true := by
      rw [List.all_eq_true]
      intro y hy
      obtain ⟨j, hj, rfl⟩ := List.getElem_of_mem hy
      have h8 : n.all.length = 8 := rfl
      have := hx2 j (by omega)
      rw [List.getD, List.getElem?_eq_getElem hj] at this
      exact this
    have hrt : n.right = (if n.k = 0 then decide (n = nZ) else if n.k = 2 then n.sized && decide (n.s % 256 = 0) else if n.k = 1 then n.sized else if n.k = 3 then n.sized && decide (1 ≤ n.s ∧ n.s ≤ 255) else false) := by
      unfold Nd.right; rw [hall, Bool.true_and]
    (conv => whnf); repeat first | (refine drw (by decide +kernel) ?_; conv => whnf) | (refine fun (_ : Nat) (_ : _ ≤ _) (_ : _ = none) => ?_; conv => whnf)
    refine ⟨.int .i64 n.k, ndCell ho1 0 rfl, ?_⟩
    (conv => whnf); repeat first | (refine drw (by decide +kernel) ?_; conv => whnf) | (refine fun (_ : Nat) (_ : _ ≤ _) (_ : _ = none) => ?_; conv => whnf)
    refine vif_dec (fun h2 => ?_) (fun h2 => ?_)
    · (conv => whnf); repeat first | (refine drw (by decide +kernel) ?_; conv => whnf) | (refine fun (_ : Nat) (_ : _ ≤ _) (_ : _ = none) => ?_; conv => whnf)
      intro r2 H2 hB2 hN2 hE2
      have ho2 : IO_ H2 r2 nZ.is := ⟨_, hE2.new⟩
      have ho12 := ho1.mono (fun o ho => hE2.old _ _ ho)
      have n12 : r1 ≠ r2 := fun e => by subst e; obtain ⟨_, h⟩ := ho1; rw [h] at hN2; cases hN2
      (conv => whnf); repeat first | (refine drw (by decide +kernel) ?_; conv => whnf) | (refine fun (_ : Nat) (_ : _ ≤ _) (_ : _ = none) => ?_; conv => whnf)
      refine ⟨rfl, IO_.store ho2 nZ.is 0 (Nat.le_of_ble_eq_true rfl) (.inr hB2) ?_⟩
      intro H3 hk3 ho3
      have ho3' : IO_ H3 r2 nZ.is := ho3
      have ho13 := ho12.mono (fun o ho => hk3 _ _ n12 ho)
      (conv => whnf); repeat first | (refine drw (by decide +kernel) ?_; conv => whnf) | (refine fun (_ : Nat) (_ : _ ≤ _) (_ : _ = none) => ?_; conv => whnf)
      refine ⟨_, ho13.all rfl, ?_⟩
      (conv => whnf); repeat first | (refine drw (by decide +kernel) ?_; conv => whnf) | (refine fun (_ : Nat) (_ : _ ≤ _) (_ : _ = none) => ?_; conv => whnf)
      refine ⟨_, ho3'.all rfl, ?_⟩
      (conv => whnf); repeat first | (refine drw (by decide +kernel) ?_; conv => whnf) | (refine fun (_ : Nat) (_ : _ ≤ _) (_ : _ = none) => ?_; conv => whnf)
      refine ⟨eq_guard (by kernel_rfl), _, nd_eq n nZ, ?_⟩
      (conv => whnf); repeat first | (refine drw (by decide +kernel) ?_; conv => whnf) | (refine fun (_ : Nat) (_ : _ ≤ _) (_ : _ = none) => ?_; conv => whnf)
      rw [hrt, if_pos h2]; rfl
    · (conv => whnf); repeat first | (refine drw (by decide +kernel) ?_; conv => whnf) | (refine fun (_ : Nat) (_ : _ ≤ _) (_ : _ = none) => ?_; conv => whnf)
      refine vif_dec (fun h3 => ?_) (fun h3 => ?_)
      · rw [if_neg h2, if_pos h3] at hrt
        (conv => whnf); repeat first | (refine drw (by decide +kernel) ?_; conv => whnf) | (refine fun (_ : Nat) (_ : _ ≤ _) (_ : _ = none) => ?_; conv => whnf)
        refine ⟨.int .i64 n.s, ndCell ho1 2 rfl, ?_⟩
        (conv => whnf); repeat first | (refine drw (by decide +kernel) ?_; conv => whnf) | (refine fun (_ : Nat) (_ : _ ≤ _) (_ : _ = none) => ?_; conv => whnf)
        refine ⟨by decide, ?_⟩
        (conv => whnf); repeat first | (refine drw (by decide +kernel) ?_; conv => whnf) | (refine fun (_ : Nat) (_ : _ ≤ _) (_ : _ = none) => ?_; conv => whnf)
        refine vif_not (fun h4 => ?_) (fun h4 => ?_)
        · (conv => whnf); repeat first | (refine drw (by decide +kernel) ?_; conv => whnf) | (refine fun (_ : Nat) (_ : _ ≤ _) (_ : _ = none) => ?_; conv => whnf)
          rw [hrt]
          by_cases hs0 : 0 ≤ n.s
          · rw [tmod_nn hs0] at h4
            rw [decide_eq_false h4, Bool.and_false]; rfl
          · have : n.sized = false := decide_eq_false (fun h => hs0 h.2.2.1)
            rw [this]; rfl
        · (conv => whnf); repeat first | (refine drw (by decide +kernel) ?_; conv => whnf) | (refine fun (_ : Nat) (_ : _ ≤ _) (_ : _ = none) => ?_; conv => whnf)
          refine ⟨_, ho1.all rfl, ?_⟩
          (conv => whnf); repeat first | (refine drw (by decide +kernel) ?_; conv => whnf) | (refine fun (_ : Nat) (_ : _ ≤ _) (_ : _ = none) => ?_; conv => whnf)
          (refine VCall.pure_ (by kernel_rfl) (fun w hs => isized_ok n w) ?_); (conv => whnf); repeat first | (refine drw (by decide +kernel) ?_; conv => whnf) | (refine fun (_ : Nat) (_ : _ ≤ _) (_ : _ = none) => ?_; conv => whnf)
          rw [hrt]
          by_cases hs0 : 0 ≤ n.s
          · rw [tmod_nn hs0] at h4
            rw [decide_eq_true h4, Bool.and_true]
          · have : n.sized = false := decide_eq_false (fun h => hs0 h.2.2.1)
            rw [this]; rfl
      · (conv => whnf); repeat first | (refine drw (by decide +kernel) ?_; conv => whnf) | (refine fun (_ : Nat) (_ : _ ≤ _) (_ : _ = none) => ?_; conv => whnf)
        refine vif_dec (fun h4 => ?_) (fun h4 => ?_)
        · rw [if_neg h2, if_neg h3, if_pos h4] at hrt
          (conv => whnf); repeat first | (refine drw (by decide +kernel) ?_; conv => whnf) | (refine fun (_ : Nat) (_ : _ ≤ _) (_ : _ = none) => ?_; conv => whnf)
          refine ⟨_, ho1.all rfl, ?_⟩
          (conv => whnf); repeat first | (refine drw (by decide +kernel) ?_; conv => whnf) | (refine fun (_ : Nat) (_ : _ ≤ _) (_ : _ = none) => ?_; conv => whnf)
          (refine VCall.pure_ (by kernel_rfl) (fun w hs => isized_ok n w) ?_); (conv => whnf); repeat first | (refine drw (by decide +kernel) ?_; conv => whnf) | (refine fun (_ : Nat) (_ : _ ≤ _) (_ : _ = none) => ?_; conv => whnf)
          rw [hrt]
        · (conv => whnf); repeat first | (refine drw (by decide +kernel) ?_; conv => whnf) | (refine fun (_ : Nat) (_ : _ ≤ _) (_ : _ = none) => ?_; conv => whnf)
          refine vif_dec (fun h5 => ?_) (fun h5 => ?_)
          · rw [if_neg h2, if_neg h3, if_neg h4, if_pos h5] at hrt
            (conv => whnf); repeat first | (refine drw (by decide +kernel) ?_; conv => whnf) | (refine fun (_ : Nat) (_ : _ ≤ _) (_ : _ = none) => ?_; conv => whnf)
            refine ⟨_, ho1.all rfl, ?_⟩
            (conv => whnf); repeat first | (refine drw (by decide +kernel) ?_; conv => whnf) | (refine fun (_ : Nat) (_ : _ ≤ _) (_ : _ = none) => ?_; conv => whnf)
            (refine VCall.pure_ (by kernel_rfl) (fun w hs => isized_ok n w) ?_); (conv => whnf); repeat first | (refine drw (by decide +kernel) ?_; conv => whnf) | (refine fun (_ : Nat) (_ : _ ≤ _) (_ : _ = none) => ?_; conv => whnf)
            refine vif_intro (fun h6 => ?_) (fun h6 => ?_)
            · (conv => whnf); repeat first | (refine drw (by decide +kernel) ?_; conv => whnf) | (refine fun (_ : Nat) (_ : _ ≤ _) (_ : _ = none) => ?_; conv => whnf)
              refine ⟨.int .i64 n.s, ndCell ho1 2 rfl, ?_⟩
              (conv => whnf); repeat first | (refine drw (by decide +kernel) ?_; conv => whnf) | (refine fun (_ : Nat) (_ : _ ≤ _) (_ : _ = none) => ?_; conv => whnf)
              refine vif_dec (fun h7 => ?_) (fun h7 => ?_)
              · (conv => whnf); repeat first | (refine drw (by decide +kernel) ?_; conv => whnf) | (refine fun (_ : Nat) (_ : _ ≤ _) (_ : _ = none) => ?_; conv => whnf)
                refine ⟨.int .i64 n.s, ndCell ho1 2 rfl, ?_⟩
                (conv => whnf); repeat first | (refine drw (by decide +kernel) ?_; conv => whnf) | (refine fun (_ : Nat) (_ : _ ≤ _) (_ : _ = none) => ?_; conv => whnf)
                rw [hrt, h6, Bool.true_and]
                exact congrArg Value.bool (decide_eq_decide.2 ⟨fun h => ⟨by omega, h⟩, fun h => h.2⟩)
              · (conv => whnf); repeat first | (refine drw (by decide +kernel) ?_; conv => whnf) | (refine fun (_ : Nat) (_ : _ ≤ _) (_ : _ = none) => ?_; conv => whnf)
                rw [hrt, h6, Bool.true_and, decide_eq_false (by omega)]; rfl
            · (conv => whnf); repeat first | (refine drw (by decide +kernel) ?_; conv => whnf) | (refine fun (_ : Nat) (_ : _ ≤ _) (_ : _ = none) => ?_; conv => whnf)
              rw [hrt, h6]; rfl
          · rw [if_neg h2, if_neg h3, if_neg h4, if_neg h5] at hrt
            (conv => whnf); repeat first | (refine drw (by decide +kernel) ?_; conv => whnf) | (refine fun (_ : Nat) (_ : _ ≤ _) (_ : _ = none) => ?_; conv => whnf)
            rw [hrt]; rfl
end Go.Proofs.YtlkgjffffeohdaaGreat
