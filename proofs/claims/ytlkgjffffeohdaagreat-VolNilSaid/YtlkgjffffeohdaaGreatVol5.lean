/- Volumes: Mount. -/
import Derived.Test.YtlkgjffffeohdaaGreatVol4
set_option linter.unusedVariables false
set_option linter.unusedSimpArgs false
namespace Go.Proofs.YtlkgjffffeohdaaGreat
open Go Go.Eng Go.Proofs

theorem pushnew_ok {H : HV} (w : World) (hs : ∀ i o, H i = some o → w.heap[i]? = some o) : Calls Tryz.prog 107 #[] w (Ret H (fun _ => False) (fun v H1 => Is (∃ p, v = pV p ∧ H p = none ∧ H1 p = some (.cells #[slV none 0 0] 269 (0, 0)))) w) := by
  refine fn_ret (args := []) tabH Tryz.func107 rfl (by kernel_rfl)  hs ?_
  conv => whnf
  intro p hBp hNp
  conv => whnf
  intro H1 hE1
  conv => whnf
  exact ⟨p, rfl, hNp, hE1.new⟩

def blk1 (d : Dk) : List UInt8 := if 1 < d.n then d.last 1 else []
def mountS (d : Dk) : Sp := chooseS (d.last 0) (blk1 d) d.n
def mount0 (d : Dk) : Vs := ⟨mountS d, St.new d, [], 0⟩
def maxId (v : Vs) : Nat → Int
  | 0 => 0
  | n + 1 => maxInt (maxId v n) (v.inode n).1.d
def headsOk (v : Vs) : Nat → Bool
  | 0 => true
  | n + 1 => headsOk v n && (decide ((v.head n).2 = 0) && decide ((v.head n).1.no = n))
def rootOk (v : Vs) : Bool := decide ((v.inode 1).2 = 0) && decide ((v.inode 1).1.k = 2)
def mountE (d : Dk) : Int := if mountS d = sZ then 10 else if headsOk (mount0 d) (mountS d).g.gs.toNat = true ∧ rootOk (mount0 d) = true then 0 else 8
def mountV (d : Dk) : Vs := { mount0 d with next := maxId (mount0 d) (mountS d).g.slots.toNat + 1 }

theorem getS_ok {bs : List UInt8} (h : (getS bs).2 = 0) : (getS bs).1.ok := by
  unfold getS at h ⊢
  split at h
  · rename_i h1; rw [if_pos h1]
    split at h
    · rename_i h2; rw [if_pos h2]
      split at h
      · rename_i h3; rw [if_pos h3]
        split at h
        · rename_i h4; rw [if_pos h4]
          split at h
          · rename_i h5; rw [if_pos h5]; exact h4
          · cases h
        · cases h
      · cases h
    · cases h
  · cases h

theorem choose_ok {xs ys : List UInt8} {n : Int} (h : chooseS xs ys n ≠ sZ) : (chooseS xs ys n).ok ∧ (chooseS xs ys n).g.size ≤ n := by
  have p1 : ∀ i bs best, (best = sZ ∨ (best.ok ∧ best.g.size ≤ n)) → (pick1 n i bs best = sZ ∨ ((pick1 n i bs best).ok ∧ (pick1 n i bs best).g.size ≤ n)) := by
    intro i bs best hb
    unfold pick1
    split
    · rename_i hc; exact .inr ⟨getS_ok hc.1, hc.2.2.1⟩
    · exact hb
  rcases p1 1 ys _ (p1 0 xs sZ (.inl rfl)) with h1 | h1
  · exact (h h1).elim
  · exact h1

theorem right_small {n : Nd} (h : n.right = true) : n.d ≤ 4611686018427387904 ∧ 0 ≤ n.d := by
  have hs : n.sized = true → n.d ≤ 4611686018427387904 ∧ 0 ≤ n.d := fun h => by
    unfold Nd.sized at h
    have := of_decide_eq_true h
    omega
  unfold Nd.right at h
  simp only [Bool.and_eq_true] at h
  have h2 := h.2
  split at h2
  · have : n = nZ := by simpa using h2
    rw [this]; decide
  · split at h2
    · exact hs (by simp only [Bool.and_eq_true] at h2; exact h2.1)
    · split at h2
      · exact hs h2
      · split at h2
        · exact hs (by simp only [Bool.and_eq_true] at h2; exact h2.1)
        · cases h2

theorem getN_small (bs : List UInt8) : (getN bs).1.d ≤ 4611686018427387904 ∧ 0 ≤ (getN bs).1.d := by
  have hz : nZ.d ≤ 4611686018427387904 ∧ 0 ≤ nZ.d := by decide
  unfold getN
  split
  · split
    · rename_i h; exact right_small h.2.2
    · exact hz
  · exact hz

theorem inode_small (v : Vs) (k : Int) : (v.inode k).1.d ≤ 4611686018427387904 ∧ 0 ≤ (v.inode k).1.d := by
  have hz : nZ.d ≤ 4611686018427387904 ∧ 0 ≤ nZ.d := by decide
  unfold Vs.inode readN
  split
  · split
    · split
      · exact hz
      · exact getN_small _
    · exact hz
  · exact hz

theorem maxId_small (v : Vs) : ∀ n, 0 ≤ maxId v n ∧ maxId v n ≤ 4611686018427387904
  | 0 => by show (0 : Int) ≤ 0 ∧ (0 : Int) ≤ _; decide
  | n + 1 => by
    have := maxId_small v n
    have h2 := inode_small v n
    show 0 ≤ maxInt _ _ ∧ maxInt _ _ ≤ _
    unfold maxInt
    split <;> omega
end Go.Proofs.YtlkgjffffeohdaaGreat
