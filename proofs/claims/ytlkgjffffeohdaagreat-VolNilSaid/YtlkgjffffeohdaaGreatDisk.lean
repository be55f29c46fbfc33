/- Disks. -/
import Derived.Test.YtlkgjffffeohdaaGreatSuper
import Derived.Test.YtlkgjffffeohdaaGreatRep2
set_option linter.unusedVariables false
set_option linter.unusedSimpArgs false
namespace Go.Proofs.YtlkgjffffeohdaaGreat
open Go Go.Eng Go.Proofs

/-- a disk: so many blocks, their safe bytes, the writes that are not safe yet -/
structure Dk where
  n : Nat
  S : Nat → List UInt8
  V : Nat → List (List UInt8)

/-- a block as it was written last -/
def Dk.last (d : Dk) (b : Nat) : List UInt8 := ((d.V b).getLast?).getD (d.S b)
def Dk.write (d : Dk) (b : Nat) (xs : List UInt8) : Dk := ⟨d.n, d.S, upd d.V b (d.V b ++ [xs])⟩
def Dk.flush (d : Dk) : Dk := ⟨d.n, d.last, fun _ => []⟩
/-- the blocks that have writes that are not safe -/
def Dk.open (d : Dk) : List Int := ((List.range d.n).filter (fun b => !(d.V b).isEmpty)).map (fun (b : Nat) => (b : Int))

structure Dk.Ok (d : Dk) : Prop where
  n : 1 ≤ d.n ∧ d.n ≤ 4096
  s : ∀ b, (d.S b).length = 256
  v : ∀ b, ∀ x ∈ d.V b, x.length = 256
  o : ∀ b, d.n ≤ b → d.V b = []

theorem Dk.last_len {d : Dk} (h : d.Ok) (b : Nat) : (d.last b).length = 256 := by
  unfold Dk.last
  cases hl : (d.V b).getLast? with
  | none => exact h.s b
  | some x => exact h.v b x (List.mem_of_getLast? hl)

theorem Dk.Ok.write {d : Dk} (h : d.Ok) {b : Nat} (hb : b < d.n) {xs : List UInt8} (hx : xs.length = 256) : (d.write b xs).Ok := by
  refine ⟨h.n, h.s, fun i x hi => ?_, fun i hi => ?_⟩
  · by_cases hib : i = b
    · subst hib
      have hi : x ∈ upd d.V i (d.V i ++ [xs]) i := hi
      rw [upd_self] at hi
      rcases List.mem_append.1 hi with h1 | h1
      · exact h.v i x h1
      · rw [List.mem_singleton.1 h1]; exact hx
    · have hi : x ∈ upd d.V b (d.V b ++ [xs]) i := hi
      rw [upd_ne _ _ _ hib] at hi
      exact h.v i x hi
  · have hne : i ≠ b := by have hi : d.n ≤ i := hi; omega
    show upd d.V b _ i = []
    rw [upd_ne _ _ _ hne]; exact h.o i hi

theorem Dk.Ok.flush {d : Dk} (h : d.Ok) : d.flush.Ok := ⟨h.n, fun b => Dk.last_len h b, fun b x hx => (by cases hx), fun b _ => rfl⟩

theorem Dk.last_write (d : Dk) (b : Nat) (xs : List UInt8) (i : Nat) : (d.write b xs).last i = if i = b then xs else d.last i := by
  unfold Dk.last Dk.write
  by_cases h : i = b
  · subst h; rw [if_pos rfl]; simp only [upd_self]; simp
  · rw [if_neg h]; simp only [upd_ne _ _ _ h]

theorem Dk.last_flush (d : Dk) (i : Nat) : d.flush.last i = d.last i := rfl

/-- blocks one behind the other -/
def flat (S : Nat → List UInt8) : Nat → List UInt8
  | 0 => []
  | n + 1 => flat S n ++ S n

theorem flat_length {S : Nat → List UInt8} (h : ∀ b, (S b).length = 256) : ∀ n, (flat S n).length = 256 * n
  | 0 => rfl
  | n + 1 => by rw [flat, List.length_append, flat_length h n, h n, Nat.mul_succ]

theorem flat_part {S : Nat → List UInt8} (h : ∀ b, (S b).length = 256) {b : Nat} : ∀ n, b < n → ((flat S n).drop (256 * b)).take 256 = S b
  | 0, hb => by omega
  | n + 1, hb => by
    have hl := flat_length h n
    by_cases e : b = n
    · subst e
      rw [flat, List.drop_append, List.drop_of_length_le (by omega), hl, Nat.sub_self, List.drop_zero, List.nil_append, List.take_of_length_le (by rw [h b]; exact Nat.le_refl _)]
    · rw [flat, List.drop_append_of_le_length (by omega), List.take_append_of_le_length (by rw [List.length_drop]; omega)]
      exact flat_part h n (by omega)

theorem flat_splice {S : Nat → List UInt8} (h : ∀ b, (S b).length = 256) {b : Nat} {xs : List UInt8} (hx : xs.length = 256) : ∀ n, b < n → splice (flat S n) (256 * b) xs = flat (upd S b xs) n
  | 0, hb => by omega
  | n + 1, hb => by
    have hl := flat_length h n
    have same : ∀ m, m ≤ b → flat (upd S b xs) m = flat S m := by
      intro m hm
      induction m with
      | zero => rfl
      | succ m ih => rw [flat, flat, ih (by omega), upd_ne _ _ _ (by omega)]
    by_cases e : b = n
    · subst e
      rw [flat, flat, same b (Nat.le_refl _), upd_self]
      unfold splice
      rw [List.take_append_of_le_length (by omega), List.take_of_length_le (by omega), hx, List.drop_of_length_le (by rw [List.length_append, hl, h b]; omega)]
      simp
    · rw [flat, flat, ← flat_splice h hx n (by omega), upd_ne _ _ _ (fun e' => e e'.symm)]
      unfold splice
      rw [List.take_append_of_le_length (by omega), hx, List.drop_append_of_le_length (by omega)]
      simp

theorem flat_zero : ∀ n, flat (fun _ => List.replicate 256 0) n = List.replicate (256 * n) 0
  | 0 => rfl
  | n + 1 => by rw [flat, flat_zero n, List.replicate_append_replicate]; rfl

theorem flat_congr {S S' : Nat → List UInt8} : ∀ n, (∀ b, b < n → S b = S' b) → flat S n = flat S' n
  | 0, _ => rfl
  | n + 1, h => by rw [flat, flat, flat_congr n (fun b hb => h b (by omega)), h n (by omega)]

/-- the versions of a block, in memory -/
structure VerAt (H : HV) (F : Nat → Prop) (p q : Nat) (v : Value) (vs : List (List UInt8)) : Prop where
  out : ∃ r c, v = slV (some r) vs.length c ∧ F r ∧ r ≠ p ∧ r ≠ q ∧ OS H 159 256 (some r) vs.length c (bytesV vs.flatten)
  ne : vs ≠ []
  len : ∀ x ∈ vs, x.length = 256
  small : vs.length ≤ 1000000

structure DiskAt (H : HV) (F : Nat → Prop) (p : Nat) (d : Dk) : Prop where
  ok : d.Ok
  dom : ∀ i, F i → ∃ o, H i = some o
  out : ∃ q m f, F p ∧ F q ∧ F m ∧ p ≠ q ∧ (∃ ty, H p = some (.cells #[.slice (some ⟨q, 0, none⟩) d.n d.n, .map (some m), .int .i64 (-1)] ty (0, 0))) ∧ BO H q (flat d.S d.n) ∧ MO H m f ∧
    (∀ b : Nat, f b = none → d.V b = []) ∧ ∀ k v, f k = some v → ∃ b : Nat, k = b ∧ b < d.n ∧ VerAt H F p q v (d.V b)

theorem VerAt.mono {H H' : HV} {F F' : Nat → Prop} {p q : Nat} {v : Value} {vs : List (List UInt8)} (h : VerAt H F p q v vs) (hs : ∀ i o, F i → i ≠ p → i ≠ q → (∃ a t f, o = .cells a t f) → H i = some o → H' i = some o) (hF : ∀ i, F i → F' i) : VerAt H' F' p q v vs := by
  obtain ⟨r, c, h1, h2, h3, h4, h5⟩ := h.out
  refine ⟨⟨r, c, h1, hF _ h2, h3, h4, ?_⟩, h.ne, h.len, h.small⟩
  obtain ⟨arr, g1, g2⟩ := h5.out
  exact ⟨h5.len, h5.le, arr, hs _ _ h2 h3 h4 ⟨_, _, _, rfl⟩ g1, g2⟩

theorem DiskAt.mono {H H' : HV} {F : Nat → Prop} {p : Nat} {d : Dk} (h : DiskAt H F p d) (hs : On F H H') : DiskAt H' F p d := by
  obtain ⟨q, m, f, hp, hq, hm, hpq, ⟨ty, hc⟩, hb, hmo, h1, h2⟩ := h.out
  refine ⟨h.ok, fun i hi => ?_, q, m, f, hp, hq, hm, hpq, ⟨ty, hs _ _ hp hc⟩, hb.mono (fun o => hs _ o hq), hmo.mono (fun o => hs _ o hm), h1, fun k v hk => ?_⟩
  · obtain ⟨o, ho⟩ := h.dom i hi; exact ⟨o, hs _ _ hi ho⟩
  · obtain ⟨b, e1, e2, e3⟩ := h2 k v hk
    exact ⟨b, e1, e2, e3.mono (fun i o hi _ _ _ ho => hs i o hi ho) (fun i hi => hi)⟩

def pV (p : Nat) : Value := .pointer (some ⟨p, 0, none⟩)

theorem DiskAt.cell {H : HV} {F : Nat → Prop} {p : Nat} {d : Dk} (h : DiskAt H F p d) : ∃ q m, RdC H p 0 (.slice (some ⟨q, 0, none⟩) d.n d.n) ∧ RdC H p 1 (.map (some m)) ∧ RdC H p 2 (.int .i64 (-1)) := by
  obtain ⟨q, m, f, hp, hq, hm, hpq, ⟨ty, hc⟩, _⟩ := h.out
  exact ⟨q, m, ⟨_, ty, _, hc, rfl⟩, ⟨_, ty, _, hc, rfl⟩, ⟨_, ty, _, hc, rfl⟩⟩

theorem dlen_ok {H : HV} {F : Nat → Prop} {p : Nat} {d : Dk} (w : World) (hs : ∀ i o, H i = some o → w.heap[i]? = some o) (hd : DiskAt H F p d) : Calls Tryz.prog 85 #[pV p] w (RetP (iV d.n) w) := by
  refine fn_pure (args := [pV p]) tabH Tryz.func85 rfl (by kernel_rfl)  hs ?_
  obtain ⟨q, m, f0, f1, f2⟩ := hd.cell
  (conv => whnf); repeat first | (refine drw (by decide +kernel) ?_; conv => whnf) | (refine fun (_ : Nat) (_ : _ ≤ _) (_ : _ = none) => ?_; conv => whnf)
  refine ⟨_, f0, ?_⟩
  (conv => whnf); repeat first | (refine drw (by decide +kernel) ?_; conv => whnf) | (refine fun (_ : Nat) (_ : _ ≤ _) (_ : _ = none) => ?_; conv => whnf)
  rfl

theorem dmay_ok {H : HV} {F : Nat → Prop} {p : Nat} {d : Dk} (b : Int) (w : World) (hs : ∀ i o, H i = some o → w.heap[i]? = some o) (hd : DiskAt H F p d) : Calls Tryz.prog 100 #[pV p, iV b] w (RetP (iV (if 0 ≤ b ∧ b < d.n then 0 else 3)) w) := by
  refine fn_pure (args := [pV p, iV b]) tabH Tryz.func100 rfl (by kernel_rfl)  hs ?_
  obtain ⟨q, m, f0, f1, f2⟩ := hd.cell
  (conv => whnf); repeat first | (refine drw (by decide +kernel) ?_; conv => whnf) | (refine fun (_ : Nat) (_ : _ ≤ _) (_ : _ = none) => ?_; conv => whnf)
  refine vif_dec (fun h1 => ?_) (fun h1 => ?_)
  · (conv => whnf); repeat first | (refine drw (by decide +kernel) ?_; conv => whnf) | (refine fun (_ : Nat) (_ : _ ≤ _) (_ : _ = none) => ?_; conv => whnf)
    rw [if_neg (by omega)]; rfl
  · (conv => whnf); repeat first | (refine drw (by decide +kernel) ?_; conv => whnf) | (refine fun (_ : Nat) (_ : _ ≤ _) (_ : _ = none) => ?_; conv => whnf)
    refine ⟨_, f0, ?_⟩
    (conv => whnf); repeat first | (refine drw (by decide +kernel) ?_; conv => whnf) | (refine fun (_ : Nat) (_ : _ ≤ _) (_ : _ = none) => ?_; conv => whnf)
    refine vif_dec (fun h2 => ?_) (fun h2 => ?_)
    · (conv => whnf); repeat first | (refine drw (by decide +kernel) ?_; conv => whnf) | (refine fun (_ : Nat) (_ : _ ≤ _) (_ : _ = none) => ?_; conv => whnf)
      rw [if_neg (by omega)]; rfl
    · (conv => whnf); repeat first | (refine drw (by decide +kernel) ?_; conv => whnf) | (refine fun (_ : Nat) (_ : _ ≤ _) (_ : _ = none) => ?_; conv => whnf)
      rw [if_pos (by omega)]; rfl

def Dk.new (n : Nat) : Dk := ⟨n, fun _ => List.replicate 256 0, fun _ => []⟩

theorem dnew_ok {H : HV} (n : Int) (w : World) (hs : ∀ i o, H i = some o → w.heap[i]? = some o) : Calls Tryz.prog 15 #[iV n] w (Ret H (fun _ => False) (fun v H1 => Is (
    if 1 ≤ n ∧ n ≤ 4096 then ∃ p F, v = .tuple #[pV p, iV 0] ∧ (∀ i, F i → H i = none) ∧ DiskAt H1 F p (Dk.new n.toNat) else v = .tuple #[.pointer none, iV 1])) w) := by
  refine fn_ret (args := [iV n]) tabH Tryz.func15 rfl (by kernel_rfl)  hs ?_
  (conv => whnf); repeat first | (refine drw (by decide +kernel) ?_; conv => whnf) | (refine fun (_ : Nat) (_ : _ ≤ _) (_ : _ = none) => ?_; conv => whnf)
  refine vif_dec (fun h1 => ?_) (fun h1 => ?_)
  · (conv => whnf); repeat first | (refine drw (by decide +kernel) ?_; conv => whnf) | (refine fun (_ : Nat) (_ : _ ≤ _) (_ : _ = none) => ?_; conv => whnf)
    exact ⟨by rw [if_neg (by omega)]; rfl⟩
  · (conv => whnf); repeat first | (refine drw (by decide +kernel) ?_; conv => whnf) | (refine fun (_ : Nat) (_ : _ ≤ _) (_ : _ = none) => ?_; conv => whnf)
    refine vif_dec (fun h2 => ?_) (fun h2 => ?_)
    · (conv => whnf); repeat first | (refine drw (by decide +kernel) ?_; conv => whnf) | (refine fun (_ : Nat) (_ : _ ≤ _) (_ : _ = none) => ?_; conv => whnf)
      exact ⟨by rw [if_neg (by omega)]; rfl⟩
    · (conv => whnf); repeat first | (refine drw (by decide +kernel) ?_; conv => whnf) | (refine fun (_ : Nat) (_ : _ ≤ _) (_ : _ = none) => ?_; conv => whnf)
      refine ⟨⟨by omega, by omega, by omega, by show (256 : Int) * n ≤ _; omega⟩, ?_⟩
      intro q H1 hB1 hN1 hE1
      (conv => whnf); repeat first | (refine drw (by decide +kernel) ?_; conv => whnf) | (refine fun (_ : Nat) (_ : _ ≤ _) (_ : _ = none) => ?_; conv => whnf)
      intro m H2 hB2 hN2 hE2
      conv => whnf
      intro p hBp hNp
      conv => whnf
      intro H3 hE3
      conv => whnf
      have hqm : q ≠ m := fun e => by subst e; rw [hE1.new] at hN2; cases hN2
      have hpq : p ≠ q := fun e => by subst e; rw [hE2.old _ _ hE1.new] at hNp; cases hNp
      refine ⟨?_⟩
      rw [if_pos (by omega)]
      obtain ⟨k, rfl⟩ : ∃ k : Nat, n = k := ⟨n.toNat, by omega⟩
      have h1 := hE3.old _ _ (hE2.old _ _ hE1.new)
      refine ⟨p, fun i => i = p ∨ i = q ∨ i = m, rfl, ?_, ⟨by dsimp only [Dk.new]; omega, fun b => List.length_replicate .., fun b x hx => (by cases hx), fun _ _ => rfl⟩, ?_, q, m, fun _ => none, .inl rfl, .inr (.inl rfl), .inr (.inr rfl), hpq, ⟨_, hE3.new⟩, ?_, MO.new (hE3.old _ _ hE2.new), fun _ _ => rfl, fun k v hk => by cases hk⟩
      · rintro i (rfl | rfl | rfl)
        · exact hE1.none (hE2.none hNp)
        · exact hN1
        · exact hE1.none hN2
      · rintro i (rfl | rfl | rfl)
        · exact ⟨_, hE3.new⟩
        · exact ⟨_, h1⟩
        · exact ⟨_, hE3.old _ _ hE2.new⟩
      · refine ⟨159, (0, 0), ?_, .inl rfl⟩
        rw [h1]
        show some (Obj.cells (zeroL (k : Int).toNat (List.replicate 256 (Value.int .u8 0))).toArray _ _) = _
        have e : zeroL (k : Int).toNat (List.replicate 256 (Value.int .u8 0)) = bytesV (flat (Dk.new k).S (Dk.new k).n) := by
          show _ = bytesV (flat (fun _ => List.replicate 256 0) k)
          rw [flat_zero]
          unfold zeroL
          rw [List.flatten_replicate_replicate, Nat.mul_comm]
          simp [bytesV]
        rw [e]; rfl

theorem dlast_ok {H : HV} {F : Nat → Prop} {p : Nat} {d : Dk} (b : Nat) (w : World) (hs : ∀ i o, H i = some o → w.heap[i]? = some o) (hd : DiskAt H F p d) (hb : b < d.n) : Calls Tryz.prog 172 #[pV p, iV b] w (RetP (.agg ⟨bytesV (d.last b)⟩) w) := by
  refine fn_pure (args := [pV p, iV b]) tabH Tryz.func172 rfl (by kernel_rfl)  hs ?_
  (conv => whnf); repeat first | (refine drw (by decide +kernel) ?_; conv => whnf) | (refine fun (_ : Nat) (_ : _ ≤ _) (_ : _ = none) => ?_; conv => whnf)
  intro r1 H1 hB1 hN1 hE1
  have hd1 := hd.mono (hE1.sub.on F)
  have ho1 : BO H1 r1 (List.replicate 256 0) := BO.zeros hE1.new
  have hlen2 := Dk.last_len hd.ok b
  have hst : ∀ xs : List UInt8, xs.length = 256 → splice (List.replicate 256 0) 0 xs = xs := fun xs h => by unfold splice; rw [h, List.drop_of_length_le (by rw [List.length_replicate]; decide)]; simp
  obtain ⟨q, m, f, hp, hq, hm, hpq, ⟨ty, hc⟩, hbo, hmo, hf1, hf2⟩ := hd1.out
  have f0 : RdC H1 p 0 (.slice (some ⟨q, 0, none⟩) d.n d.n) := ⟨_, ty, _, hc, rfl⟩
  have f1 : RdC H1 p 1 (.map (some m)) := ⟨_, ty, _, hc, rfl⟩
  have hlen := flat_length hd.ok.s d.n
  have hpos := hd.ok.n
  (conv => whnf); repeat first | (refine drw (by decide +kernel) ?_; conv => whnf) | (refine fun (_ : Nat) (_ : _ ≤ _) (_ : _ = none) => ?_; conv => whnf)
  refine ⟨_, f1, ?_⟩
  (conv => whnf); repeat first | (refine drw (by decide +kernel) ?_; conv => whnf) | (refine fun (_ : Nat) (_ : _ ≤ _) (_ : _ = none) => ?_; conv => whnf)
  refine hmo.look b (fun v hv => ?_) (fun hn => ?_)
  · obtain ⟨b', e1, e2, hver⟩ := hf2 b v hv
    have : b' = b := by omega
    subst this
    obtain ⟨r, c, rfl, hFr, _, _, hos⟩ := hver.out
    have hvl : ∃ xs ys, d.V b' = xs ++ [ys] := ⟨_, _, (List.dropLast_concat_getLast hver.ne).symm⟩
    obtain ⟨xs, ys, hxy⟩ := hvl
    have hlast : d.last b' = ys := by unfold Dk.last; rw [hxy]; simp
    have hyl := hver.len ys (by rw [hxy]; simp)
    have hsm := hver.small
    have hxl : xs.flatten.length = 256 * xs.length := by
      have : ∀ x ∈ xs, x.length = 256 := fun x hx => hver.len x (by rw [hxy]; simp [hx])
      clear hxy hlast
      induction xs with
      | nil => rfl
      | cons x xs ih => rw [List.flatten_cons, List.length_append, ih (fun y hy => this y (List.mem_cons_of_mem _ hy)), this x (List.mem_cons_self ..), List.length_cons]; omega
    have hk : (d.V b').length = xs.length + 1 := by rw [hxy]; simp
    rw [hlast]
    rw [hk] at hos hsm ⊢
    (conv => whnf); repeat first | (refine drw (by decide +kernel) ?_; conv => whnf) | (refine fun (_ : Nat) (_ : _ ≤ _) (_ : _ = none) => ?_; conv => whnf)
    refine vif_dec (fun h1 => ?_) (fun h1 => ?_)
    · (conv => whnf); repeat first | (refine drw (by decide +kernel) ?_; conv => whnf) | (refine fun (_ : Nat) (_ : _ ≤ _) (_ : _ = none) => ?_; conv => whnf)
      have ek : IntKind.i64.wrap (((xs.length + 1 : Nat) : Int) - 1) = (xs.length : Int) := by rw [wrap64 (by omega)]; omega
      rw [ek]
      refine ⟨⟨by omega, by omega⟩, ?_⟩
      (conv => whnf); repeat first | (refine drw (by decide +kernel) ?_; conv => whnf) | (refine fun (_ : Nat) (_ : _ ≤ _) (_ : _ = none) => ?_; conv => whnf)
      have hrd : RdA H1 r (0 + (xs.length : Int).toNat * 256) 256 ⟨bytesV ys⟩ := by
        have eo : 0 + (xs.length : Int).toNat * 256 = xs.length * 256 := by (show 0 + xs.length * 256 = _; omega)
        rw [eo]
        obtain ⟨arr, g1, g2, g3⟩ := hos.out
        have hle := hos.le
        refine ⟨arr, _, _, g1, by rw [g2]; omega, ?_⟩
        apply Array.toList_inj.mp
        have e0 : bytesV (d.V b').flatten = bytesV xs.flatten ++ bytesV ys := by rw [hxy]; simp [bytesV]
        have hbl : (bytesV xs.flatten).length = xs.length * 256 := by rw [bytesV_len, hxl, Nat.mul_comm]
        rw [e0] at g3
        have e3 : (bytesV xs.flatten ++ bytesV ys).drop (xs.length * 256) = bytesV ys := by
          rw [← hbl, List.drop_left]
        have e4 : (xs.length + 1) * 256 = xs.length * 256 + 256 := by omega
        show bytesV ys = _
        rw [← e3, g3, e4, Array.toList_extract, List.extract_eq_take_drop, List.drop_take]
      refine ⟨_, hrd, ?_⟩
      (conv => whnf); repeat first | (refine drw (by decide +kernel) ?_; conv => whnf) | (refine fun (_ : Nat) (_ : _ ≤ _) (_ : _ = none) => ?_; conv => whnf)
      refine ⟨by show (bytesV _).length = 256; simp [bytesV]; omega, BO.store ho1 _ 0 (by rw [hyl, List.length_replicate]; decide) (.inr hB1) ?_⟩
      intro H2 hk2 hb2
      rw [hst _ hyl] at hb2
      (conv => whnf); repeat first | (refine drw (by decide +kernel) ?_; conv => whnf) | (refine fun (_ : Nat) (_ : _ ≤ _) (_ : _ = none) => ?_; conv => whnf)
      have hq := hb2.part 0 256 (by omega)
      rw [List.drop_zero, List.take_of_length_le (by omega)] at hq
      exact ⟨_, hq, rfl⟩
    · exact (h1 (by omega)).elim
  · have hlast : d.last b = d.S b := by unfold Dk.last; rw [hf1 b hn]; rfl
    rw [hlast] at hlen2 ⊢
    (conv => whnf); repeat first | (refine drw (by decide +kernel) ?_; conv => whnf) | (refine fun (_ : Nat) (_ : _ ≤ _) (_ : _ = none) => ?_; conv => whnf)
    refine ⟨_, f0, ?_⟩
    (conv => whnf); repeat first | (refine drw (by decide +kernel) ?_; conv => whnf) | (refine fun (_ : Nat) (_ : _ ≤ _) (_ : _ = none) => ?_; conv => whnf)
    refine ⟨⟨by omega, by omega⟩, ?_⟩
    (conv => whnf); repeat first | (refine drw (by decide +kernel) ?_; conv => whnf) | (refine fun (_ : Nat) (_ : _ ≤ _) (_ : _ = none) => ?_; conv => whnf)
    have hpt := hbo.part (256 * b) 256 (by omega)
    rw [flat_part hd.ok.s d.n hb] at hpt
    generalize d.S b = ys at *
    refine ⟨⟨bytesV ys⟩, by have e : 0 + (b : Int).toNat * 256 = 256 * b := by (show 0 + b * 256 = 256 * b; omega)
                            rw [← e] at hpt; exact hpt, ?_⟩
    (conv => whnf); repeat first | (refine drw (by decide +kernel) ?_; conv => whnf) | (refine fun (_ : Nat) (_ : _ ≤ _) (_ : _ = none) => ?_; conv => whnf)
    refine ⟨by show (bytesV _).length = 256; simp [bytesV]; omega, BO.store ho1 ys 0 (by rw [hlen2, List.length_replicate]; decide) (.inr hB1) ?_⟩
    intro H2 hk2 hb2
    rw [hst _ hlen2] at hb2
    (conv => whnf); repeat first | (refine drw (by decide +kernel) ?_; conv => whnf) | (refine fun (_ : Nat) (_ : _ ≤ _) (_ : _ = none) => ?_; conv => whnf)
    have hq := hb2.part 0 256 (by omega)
    rw [List.drop_zero, List.take_of_length_le (by omega)] at hq
    exact ⟨_, hq, rfl⟩
end Go.Proofs.YtlkgjffffeohdaaGreat
