/- The text order of a region that draws its order: where operations that no edge orders commute, one walk in the order of the text covers all orders. -/
import Derived.Orders
import Derived.Laws.World
set_option linter.unusedVariables false
set_option linter.unusedSimpArgs false
namespace Go.Eng
open Go

inductive Cls where
  | free | read | main

section
variable {P : Program} {ops : Array Oper}

/-- one operation, by its class -/
def Out (P : Program) (ops : Array Oper) (J : World → Prop) (c : Cls) (o : Oper) (a : Act) (w : World) (K : Act → World → Prop) : Prop :=
  if Region.wanted o (yielded ops a.tmps) = true then
    match c with
    | .free => ∃ v, (∀ w', J w' → (execOp a.eval o).run P w' = .ok (.value v) w') ∧ K (a.put o.dst v) w
    | .read => ∃ v, (execOp a.eval o).run P w = .ok (.value v) w ∧ K (a.put o.dst v) w
    | .main => o.wp P a w (fun a' w' => J w' ∧ K a' w') (fun _ _ _ => False)
  else K (a.put o.dst undef) w

def CP (P : Program) (ops : Array Oper) (J : World → Prop) (cl : Nat → Cls) (Q : Act → World → Prop) : List Nat → Act → World → Prop
  | [], a, w => Q a w
  | i :: r, a, w => match ops[i]? with
    | none => CP P ops J cl Q r a w
    | some o => Out P ops J (cl i) o a w (CP P ops J cl Q r)

theorem Out.mono {J : World → Prop} {c : Cls} {o : Oper} {a : Act} {w : World} {K K' : Act → World → Prop} (hJ : J w) (h : Out P ops J c o a w K)
    (hk : ∀ a w, J w → K a w → K' a w) : Out P ops J c o a w K' := by
  unfold Out at *
  split
  · rename_i hw
    rw [if_pos hw] at h
    cases c with
    | free => obtain ⟨v, h1, h2⟩ := h; exact ⟨v, h1, hk _ _ hJ h2⟩
    | read => obtain ⟨v, h1, h2⟩ := h; exact ⟨v, h1, hk _ _ hJ h2⟩
    | main => exact Oper.wp_mono (fun a w ⟨hj, hkk⟩ => ⟨hj, hk _ _ hj hkk⟩) h
  · rename_i hw
    rw [if_neg hw] at h
    exact hk _ _ hJ h

theorem eval_defers (a : Act) (d : List Deferred) : ({ a with defers := d } : Act).eval = a.eval := by
  funext x; cases x <;> rfl

/-- an operation leaves its slot and nothing else -/
def After (o : Oper) (a a' : Act) : Prop := ∃ v d, a' = ({ a with defers := d } : Act).put o.dst v

theorem wp_after {o : Oper} {a : Act} {w : World} {K : Act → World → Prop} (h : o.wp P a w K (fun _ _ _ => False)) :
    o.wp P a w (fun a' w' => After o a a' ∧ K a' w') (fun _ _ _ => False) := by
  unfold Oper.wp at *
  generalize (execOp a.eval o).run P w = r at *
  cases r with
  | ok n w' =>
    cases n <;> simp only [Oper.upon] at h ⊢ <;> try exact h
    case value v => exact ⟨⟨v, a.defers, rfl⟩, h⟩
    case skip => exact ⟨⟨undef, a.defers, rfl⟩, h⟩
    case defer d => exact ⟨⟨undef, d :: a.defers, rfl⟩, h⟩
    case enter f args =>
      refine Calls.mono h fun e w'' he => ?_
      cases e with
      | returned v => exact ⟨⟨v, a.defers, rfl⟩, he⟩
      | panicked c => exact he
      | outgrown => exact he
    case row row args => exact Rows.mono h fun v w'' he => ⟨⟨v, a.defers, rfl⟩, he⟩
  | halt x w' => cases x <;> simp only [Oper.upon] at h ⊢ <;> exact h

theorem wp_some {o : Oper} {a : Act} {w : World} {K : Act → World → Prop} (h : o.wp P a w K (fun _ _ _ => False)) : ∃ a' w', K a' w' := by
  unfold Oper.wp at *
  generalize (execOp a.eval o).run P w = r at *
  cases r with
  | ok n w' =>
    cases n <;> simp only [Oper.upon] at h
    case value v => exact ⟨_, _, h⟩
    case skip => exact ⟨_, _, h⟩
    case defer d => exact ⟨_, _, h⟩
    case enter f args =>
      obtain ⟨e, w'', fr, hR, _⟩ := h []
      cases e with
      | returned v => exact ⟨_, _, hR⟩
      | panicked c => exact hR.elim
      | outgrown => obtain ⟨_, _, hf⟩ := hR; exact hf.elim
    case row row args =>
      obtain ⟨v, w'', hR, _⟩ := h default []
      exact ⟨_, _, hR⟩
    all_goals exact h.elim
  | halt x w' => cases x <;> simp only [Oper.upon] at h <;> exact h.elim

/-- the same operation in a frame with another slot set -/
theorem wp_put_in {o : Oper} {d : Option Tmp} {u : Value} {a : Act} {w : World} {K : Act → World → Prop} (hs : ∀ cs b, o.op ≠ .select cs b)
    (h1 : ∀ t, d = some t → t ∉ o.looksAt ops) (h2 : ∀ t, d = some t → o.dst ≠ some t)
    (h : o.wp P a w (fun a' w' => K (a'.put d u) w') (fun _ _ _ => False)) : o.wp P (a.put d u) w K (fun _ _ _ => False) := by
  have he : execOp (a.put d u).eval o = execOp a.eval o := execOp_put (ops := ops) o hs a d u h1
  unfold Oper.wp at *
  rw [he]
  generalize (execOp a.eval o).run P w = r at *
  have pc : ∀ (a : Act) (v : Value), (a.put d u).put o.dst v = (a.put o.dst v).put d u := fun a v => (Act.put_comm a u v h2)
  cases r with
  | ok n w' =>
    cases n <;> simp only [Oper.upon] at h ⊢ <;> try exact h
    case value v => rw [pc]; exact h
    case skip => rw [pc]; exact h
    case defer dd => rw [Act.put_defers, pc]; exact h
    case enter f args =>
      refine Calls.mono h fun e w'' he => ?_
      cases e with
      | returned v => simp only at he ⊢; rw [pc]; exact he
      | panicked c => exact he
      | outgrown => exact he
    case row row args => exact Rows.mono h fun v w'' he => by rw [pc]; exact he
  | halt x w' => cases x <;> simp only [Oper.upon] at h ⊢ <;> exact h

theorem wp_put_out {o : Oper} {d : Option Tmp} {u : Value} {a : Act} {w : World} {K : Act → World → Prop} (hs : ∀ cs b, o.op ≠ .select cs b)
    (h1 : ∀ t, d = some t → t ∉ o.looksAt ops) (h2 : ∀ t, d = some t → o.dst ≠ some t)
    (h : o.wp P (a.put d u) w K (fun _ _ _ => False)) : o.wp P a w (fun a' w' => K (a'.put d u) w') (fun _ _ _ => False) := by
  have he : execOp (a.put d u).eval o = execOp a.eval o := execOp_put (ops := ops) o hs a d u h1
  unfold Oper.wp at *
  rw [he] at h
  generalize (execOp a.eval o).run P w = r at *
  have pc : ∀ (a : Act) (v : Value), (a.put d u).put o.dst v = (a.put o.dst v).put d u := fun a v => (Act.put_comm a u v h2)
  cases r with
  | ok n w' =>
    cases n <;> simp only [Oper.upon] at h ⊢ <;> try exact h
    case value v => rw [pc] at h; exact h
    case skip => rw [pc] at h; exact h
    case defer dd => rw [Act.put_defers, pc] at h; exact h
    case enter f args =>
      refine Calls.mono h fun e w'' he => ?_
      cases e with
      | returned v => simp only at he ⊢; rw [pc] at he; exact he
      | panicked c => exact he
      | outgrown => exact he
    case row row args => exact Rows.mono h fun v w'' he => by rw [pc] at he; exact he
  | halt x w' => cases x <;> simp only [Oper.upon] at h ⊢ <;> exact h

def compat : Cls → Cls → Bool
  | .main, .main | .main, .read | .read, .main => false
  | _, _ => true

theorem After.exec {o x : Oper} {a a' : Act} (h : After o a a') (hs : ∀ cs b, x.op ≠ .select cs b) (h1 : ∀ t, o.dst = some t → t ∉ x.looksAt ops) :
    execOp a'.eval x = execOp a.eval x ∧ Region.wanted x (yielded ops a'.tmps) = Region.wanted x (yielded ops a.tmps) := by
  obtain ⟨v, d, rfl⟩ := h
  exact ⟨by rw [execOp_put (ops := ops) x hs _ o.dst v h1, eval_defers], by rw [wanted_put (ops := ops) x _ o.dst v h1]⟩

theorem swap {J : World → Prop} {cj ci : Cls} {oj oi : Oper} {a : Act} {w : World} {K : Act → World → Prop} (hJ : J w) (hc : compat cj ci = true)
    (hsj : ∀ cs b, oj.op ≠ .select cs b) (hsi : ∀ cs b, oi.op ≠ .select cs b) (hap : oj.apart ops oi = true)
    (h : Out P ops J cj oj a w (fun a1 w1 => Out P ops J ci oi a1 w1 K)) : Out P ops J ci oi a w (fun a2 w2 => Out P ops J cj oj a2 w2 K) := by
  obtain ⟨A1, A2, A3⟩ := Oper.apart_spec hap
  have A2' : ∀ d, oi.dst = some d → oj.dst ≠ some d := fun d hd hd' => A2 d hd' hd
  have ej : ∀ v, execOp (a.put oi.dst v).eval oj = execOp a.eval oj := fun v => execOp_put (ops := ops) oj hsj a oi.dst v A3
  have ei : ∀ v, execOp (a.put oj.dst v).eval oi = execOp a.eval oi := fun v => execOp_put (ops := ops) oi hsi a oj.dst v A1
  have wj : ∀ v, Region.wanted oj (yielded ops (a.put oi.dst v).tmps) = Region.wanted oj (yielded ops a.tmps) := fun v => wanted_put (ops := ops) oj a oi.dst v A3
  have wi : ∀ v, Region.wanted oi (yielded ops (a.put oj.dst v).tmps) = Region.wanted oi (yielded ops a.tmps) := fun v => wanted_put (ops := ops) oi a oj.dst v A1
  have pc : ∀ (a : Act) u v, (a.put oj.dst u).put oi.dst v = (a.put oi.dst v).put oj.dst u := fun a u v => Act.put_comm a u v A2
  unfold Out at h ⊢
  by_cases Wj : Region.wanted oj (yielded ops a.tmps) = true
  · rw [if_pos Wj] at h
    by_cases Wi : Region.wanted oi (yielded ops a.tmps) = true
    · rw [if_pos Wi]
      cases cj with
      | free =>
        obtain ⟨u, hu, h⟩ := h
        (try dsimp only at h)
        rw [wi, if_pos Wi] at h
        cases ci with
        | free => obtain ⟨v, hv, h⟩ := h; rw [ei] at hv; rw [pc] at h; exact ⟨v, hv, by (try dsimp only); rw [wj, if_pos Wj]; exact ⟨u, by rw [ej]; exact hu, h⟩⟩
        | read => obtain ⟨v, hv, h⟩ := h; rw [ei] at hv; rw [pc] at h; exact ⟨v, hv, by (try dsimp only); rw [wj, if_pos Wj]; exact ⟨u, by rw [ej]; exact hu, h⟩⟩
        | main =>
          have h' := wp_after (wp_put_out (ops := ops) hsi A1 A2 h)
          refine Oper.wp_mono ?_ h'
          rintro a' w' ⟨haf, hj, hk⟩
          obtain ⟨e1, e2⟩ := haf.exec (ops := ops) hsj A3
          exact ⟨hj, by (try dsimp only); rw [e2, if_pos Wj]; exact ⟨u, by rw [e1]; exact hu, hk⟩⟩
      | read =>
        obtain ⟨u, hu, h⟩ := h
        (try dsimp only at h)
        rw [wi, if_pos Wi] at h
        cases ci with
        | free => obtain ⟨v, hv, h⟩ := h; rw [ei] at hv; rw [pc] at h; exact ⟨v, hv, by (try dsimp only); rw [wj, if_pos Wj]; exact ⟨u, by rw [ej]; exact hu, h⟩⟩
        | read => obtain ⟨v, hv, h⟩ := h; rw [ei] at hv; rw [pc] at h; exact ⟨v, hv, by (try dsimp only); rw [wj, if_pos Wj]; exact ⟨u, by rw [ej]; exact hu, h⟩⟩
        | main => simp [compat] at hc
      | main =>
        cases ci with
        | free =>
          have h' := wp_after h
          obtain ⟨a1, w1, haf, hj1, h1⟩ := wp_some h'
          obtain ⟨e1, e2⟩ := haf.exec (ops := ops) hsi A1
          (try dsimp only at h1)
          rw [e2, if_pos Wi] at h1
          obtain ⟨v, hv, _⟩ := h1
          rw [e1] at hv
          refine ⟨v, hv, ?_⟩
          (try dsimp only)
          rw [wj, if_pos Wj]
          refine wp_put_in (ops := ops) hsj A3 (fun t ht => A2' t ht) (Oper.wp_mono ?_ h')
          rintro a' w' ⟨haf', hj', hk'⟩
          obtain ⟨e1', e2'⟩ := haf'.exec (ops := ops) hsi A1
          (try dsimp only at hk')
          rw [e2', if_pos Wi] at hk'
          obtain ⟨v', hv', hk''⟩ := hk'
          rw [e1'] at hv'
          have := (hv' w' hj').symm.trans (hv w' hj')
          simp only [Result.ok.injEq, Next.value.injEq, and_true] at this
          subst this
          exact ⟨hj', hk''⟩
        | read => simp [compat] at hc
        | main => simp [compat] at hc
    · rw [if_neg Wi]
      cases cj with
      | free => obtain ⟨u, hu, h⟩ := h; (try dsimp only at h); rw [wi, if_neg Wi, pc] at h; (try dsimp only); rw [wj, if_pos Wj]; exact ⟨u, by rw [ej]; exact hu, h⟩
      | read => obtain ⟨u, hu, h⟩ := h; (try dsimp only at h); rw [wi, if_neg Wi, pc] at h; (try dsimp only); rw [wj, if_pos Wj]; exact ⟨u, by rw [ej]; exact hu, h⟩
      | main =>
        (try dsimp only)
        rw [wj, if_pos Wj]
        refine wp_put_in (ops := ops) hsj A3 (fun t ht => A2' t ht) (Oper.wp_mono ?_ (wp_after h))
        rintro a' w' ⟨haf', hj', hk'⟩
        obtain ⟨e1', e2'⟩ := haf'.exec (ops := ops) hsi A1
        (try dsimp only at hk')
        rw [e2', if_neg Wi] at hk'
        exact ⟨hj', hk'⟩
  · rw [if_neg Wj] at h
    (try dsimp only at h)
    rw [wi] at h
    by_cases Wi : Region.wanted oi (yielded ops a.tmps) = true
    · rw [if_pos Wi] at h ⊢
      cases ci with
      | free => obtain ⟨v, hv, h⟩ := h; rw [ei] at hv; rw [pc] at h; exact ⟨v, hv, by (try dsimp only); rw [wj, if_neg Wj]; exact h⟩
      | read => obtain ⟨v, hv, h⟩ := h; rw [ei] at hv; rw [pc] at h; exact ⟨v, hv, by (try dsimp only); rw [wj, if_neg Wj]; exact h⟩
      | main =>
        refine Oper.wp_mono ?_ (wp_after (wp_put_out (ops := ops) hsi A1 A2 h))
        rintro a' w' ⟨haf, hj, hk⟩
        obtain ⟨e1, e2⟩ := haf.exec (ops := ops) hsj A3
        exact ⟨hj, by (try dsimp only); rw [e2, if_neg Wj]; exact hk⟩
    · rw [if_neg Wi] at h ⊢
      (try dsimp only)
      rw [wj, if_neg Wj, ← pc]; exact h

/-- the static check -/
def ancOk (ops : Array Oper) (anc : Array Nat) : Bool :=
  (List.range ops.size).all fun i => match ops[i]? with
    | none => true
    | some o => (List.range ops.size).all fun j => !(anc.getD i 0).testBit j ||
        o.after.any fun e => Region.binds .any e && (e.on == j || (anc.getD e.on 0).testBit j)

def topOk (ops : Array Oper) : Bool :=
  (List.range ops.size).all fun i => match ops[i]? with
    | none => true
    | some o => o.after.all fun e => !Region.binds .any e || Nat.blt e.on i

def pairOk (ops : Array Oper) (anc : Array Nat) (cl : Nat → Cls) : Bool :=
  (List.range ops.size).all fun i => match ops[i]? with
    | none => true
    | some oi => (List.range i).all fun j => match ops[j]? with
      | none => true
      | some oj => (anc.getD i 0).testBit j || (compat (cl j) (cl i) && oj.apart ops oi)

def regOk (ops : Array Oper) (cl : Nat → Cls) : Bool :=
  Region.noSelect ops && ancOk ops (Region.before ops) && topOk ops && pairOk ops (Region.before ops) cl

def Rem (n : Nat) (listed : Array Bool) : List Nat := (List.range n).filter fun i => !listed.getD i true

def Closed (ops : Array Oper) (anc : Array Nat) (listed : Array Bool) : Prop :=
  ∀ i, listed.getD i false = true → ∀ j, j < ops.size → (anc.getD i 0).testBit j = true → listed.getD j false = true

theorem filter_split (l : List Nat) (hl : l.Pairwise (· < ·)) (i : Nat) (hi : i ∈ l) :
    ∃ pre post, l = pre ++ i :: post ∧ (∀ x ∈ pre, x < i) ∧ l.filter (fun x => x != i) = pre ++ post := by
  obtain ⟨pre, post, rfl⟩ := List.append_of_mem hi
  refine ⟨pre, post, rfl, ?_, ?_⟩
  · intro x hx
    rw [List.pairwise_append] at hl
    exact hl.2.2 x hx i (List.mem_cons_self ..)
  · rw [List.filter_append, List.filter_cons]
    simp only [bne_self_eq_false, Bool.false_eq_true, if_false]
    rw [List.pairwise_append, List.pairwise_cons] at hl
    rw [List.filter_eq_self.2 (fun x hx => by have := hl.2.2 x hx i (List.mem_cons_self ..); simp; omega),
      List.filter_eq_self.2 (fun x hx => by have := hl.2.1.1 x hx; simp; omega)]

theorem Rem_set (n : Nat) (listed : Array Bool) (i : Nat) (hi : listed.getD i true = false) :
    Rem n (listed.setIfInBounds i true) = (Rem n listed).filter (fun x => x != i) := by
  unfold Rem
  rw [List.filter_filter]
  congr 1
  funext x
  by_cases hx : i = x
  · subst hx
    have : i < listed.size := by
      rcases Nat.lt_or_ge i listed.size with h' | h'
      · exact h'
      · simp [Array.getElem?_eq_none h'] at hi
    simp [this]
  · rw [getD_set_ne true hx]
    have : (x != i) = true := by simp; exact fun e => hx e.symm
    rw [this, Bool.true_and]

theorem Rem_pairwise (n : Nat) (listed : Array Bool) : (Rem n listed).Pairwise (· < ·) :=
  List.Pairwise.filter _ List.pairwise_lt_range

theorem pull {J : World → Prop} {cl : Nat → Cls} {Q : Act → World → Prop} (hsel : Region.noSelect ops = true) (i : Nat) (oi : Oper) (hi : ops[i]? = some oi) :
    ∀ (pre post : List Nat), (∀ j ∈ pre, ∀ oj, ops[j]? = some oj → compat (cl j) (cl i) = true ∧ oj.apart ops oi = true) →
      ∀ a w, J w → CP P ops J cl Q (pre ++ i :: post) a w → CP P ops J cl Q (i :: (pre ++ post)) a w
  | [], post, _, a, w, _, h => h
  | j :: pre, post, hp, a, w, hJ, h => by
    have ih := pull (J := J) (cl := cl) (Q := Q) hsel i oi hi pre post (fun k hk => hp k (List.mem_cons_of_mem _ hk))
    simp only [List.cons_append, CP] at h ⊢
    rw [hi]
    cases hj : ops[j]? with
    | none =>
      rw [hj] at h
      have := ih a w hJ h
      simpa only [CP, hi] using this
    | some oj =>
      rw [hj] at h
      obtain ⟨hc, hap⟩ := hp j (List.mem_cons_self ..) oj hj
      have h1 : Out P ops J (cl j) oj a w (fun a1 w1 => Out P ops J (cl i) oi a1 w1 (CP P ops J cl Q (pre ++ post))) :=
        h.mono hJ (fun a1 w1 hJ1 hk => by have := ih a1 w1 hJ1 hk; simpa only [CP, hi] using this)
      exact swap hJ hc (fun cs b => Region.noSelect_spec hsel j oj cs b hj) (fun cs b => Region.noSelect_spec hsel i oi cs b hi) hap h1

theorem Out.wpOp {J : World → Prop} {c : Cls} {i : Nat} {o : Oper} {a : Act} {w : World} {K K' : Act → World → Prop} {Q : Exit → Act → World → Prop}
    (hi : ops[i]? = some o) (hJ : J w) (h : Out P ops J c o a w K) (hk : ∀ a w, J w → K a w → K' a w) : wpOp P ops Q i K' a w := by
  unfold Out at h
  unfold Go.wpOp
  simp only [hi]
  split
  · rename_i hw
    rw [if_pos hw] at h
    refine .inl ?_
    cases c with
    | free => obtain ⟨v, hv, h⟩ := h; simp only [Oper.wp, hv w hJ, Oper.upon]; exact hk _ _ hJ h
    | read => obtain ⟨v, hv, h⟩ := h; simp only [Oper.wp, hv, Oper.upon]; exact hk _ _ hJ h
    | main =>
      have h' : o.wp P a w K' (fun _ _ _ => False) := Oper.wp_mono (fun a w ⟨hj, hkk⟩ => hk _ _ hj hkk) h
      unfold Oper.wp at h' ⊢
      generalize (execOp a.eval o).run P w = r at *
      cases r with
      | ok n w' =>
        cases n <;> simp only [Oper.upon] at h' ⊢ <;> try exact h'
        case enter f args =>
          refine Calls.mono h' fun e w'' he => ?_
          cases e with
          | returned v => exact he
          | panicked c => exact he.elim
          | outgrown => obtain ⟨_, _, hf⟩ := he; exact hf.elim
      | halt x w' => cases x <;> simp only [Oper.upon] at h' ⊢
  · rename_i hw
    rw [if_neg hw] at h
    exact hk _ _ hJ h

theorem any_of_text {J : World → Prop} {cl : Nat → Cls} {Q : Exit → Act → World → Prop} (hok : regOk ops cl = true) :
    ∀ (fuel : Nat) (listed : Array Bool) (a : Act) (w : World), listed.size = ops.size → Closed ops (Region.before ops) listed → (Rem ops.size listed).length ≤ fuel → J w →
      CP P ops J cl (fun a w => Q .normal a w) (Rem ops.size listed) a w → wpAny P .any ops Q fuel listed a w := by
  simp only [regOk, Bool.and_eq_true] at hok
  obtain ⟨⟨⟨hsel, hanc⟩, htop⟩, hpair⟩ := hok
  have noready : ∀ listed : Array Bool, Region.ready .any ops listed = [] → Rem ops.size listed = [] := by
    intro listed hr
    cases hrem : Rem ops.size listed with
    | nil => rfl
    | cons i r =>
      exfalso
      have him : i ∈ Rem ops.size listed := by rw [hrem]; exact List.mem_cons_self ..
      have hi1 := List.mem_filter.1 him
      have hlt := List.mem_range.1 hi1.1
      have : i ∈ Region.ready .any ops listed := by
        rw [mem_ready]
        refine ⟨by simpa using hi1.2, ops[i], by simp [hlt], ?_⟩
        intro e he hb
        have ht := List.all_eq_true.1 htop i (List.mem_range.2 hlt)
        simp only [Array.getElem?_eq_getElem hlt] at ht
        have he' := Array.all_eq_true_iff_forall_mem.1 ht e he
        simp only [hb, Bool.not_true, Bool.false_or, Nat.blt_eq] at he'
        have hpw := Rem_pairwise ops.size listed
        rw [hrem, List.pairwise_cons] at hpw
        by_cases hle : listed.getD e.on true = false
        · have hm : e.on ∈ Rem ops.size listed := List.mem_filter.2 ⟨List.mem_range.2 (by omega), by rw [hle]; rfl⟩
          rw [hrem] at hm
          rcases List.mem_cons.1 hm with h | h
          · omega
          · have := hpw.1 _ h; omega
        · have hon : e.on < listed.size ∨ listed.size ≤ e.on := by omega
          rcases hon with hon | hon
          · simp [hon] at hle ⊢; exact hle
          · exfalso
            have h2 : listed.getD i true = true := by simp [Array.getElem?_eq_none (show listed.size ≤ i by omega)]
            have h3 := hi1.2
            rw [h2] at h3
            cases h3
      rw [hr] at this
      cases this
  intro fuel
  induction fuel with
  | zero =>
    intro listed a w hsz hcl hlen hJ h
    have hrem : Rem ops.size listed = [] := List.length_eq_zero_iff.1 (by omega)
    refine ⟨?_, by rw [hrem] at h; exact h⟩
    cases hr : Region.ready .any ops listed with
    | nil => rfl
    | cons i r =>
      exfalso
      have him : i ∈ Region.ready .any ops listed := by rw [hr]; exact List.mem_cons_self ..
      obtain ⟨h0, o, ho, _⟩ := mem_ready.1 him
      have : i ∈ Rem ops.size listed := List.mem_filter.2 ⟨List.mem_range.2 (Array.getElem?_eq_some_iff.1 ho).1, by rw [h0]; rfl⟩
      rw [hrem] at this
      cases this
  | succ fuel ih =>
    intro listed a w hsz hcl hlen hJ h
    refine ⟨fun hr => by rw [noready listed hr] at h; exact h, fun i hi => ?_⟩
    obtain ⟨h0, oi, hoi, hdeps⟩ := mem_ready.1 hi
    have hilt := (Array.getElem?_eq_some_iff.1 hoi).1
    have him : i ∈ Rem ops.size listed := List.mem_filter.2 ⟨List.mem_range.2 hilt, by rw [h0]; rfl⟩
    obtain ⟨pre, post, hsplit, hpre, hfil⟩ := filter_split _ (Rem_pairwise ops.size listed) i him
    rw [hsplit] at h
    -- all that i needs is listed
    have hall : ∀ j, j < ops.size → ((Region.before ops).getD i 0).testBit j = true → listed.getD j false = true := by
      intro j hj hb
      have h1 := List.all_eq_true.1 hanc i (List.mem_range.2 hilt)
      simp only [hoi] at h1
      have h2 := List.all_eq_true.1 h1 j (List.mem_range.2 hj)
      rw [hb] at h2
      simp only [Bool.not_true, Bool.false_or] at h2
      obtain ⟨e, he, hbe⟩ := Array.any_eq_true'.1 h2
      simp only [Bool.and_eq_true, Bool.or_eq_true, beq_iff_eq] at hbe
      have hl := hdeps e he hbe.1
      rcases hbe.2 with h3 | h3
      · rw [← h3]; exact hl
      · exact hcl _ hl j hj h3
    have hp : ∀ j ∈ pre, ∀ oj, ops[j]? = some oj → compat (cl j) (cl i) = true ∧ oj.apart ops oi = true := by
      intro j hj oj hoj
      have hjm : j ∈ Rem ops.size listed := by rw [hsplit]; exact List.mem_append_left _ hj
      have hjun := (List.mem_filter.1 hjm).2
      have h1 := List.all_eq_true.1 hpair i (List.mem_range.2 hilt)
      simp only [hoi] at h1
      have h2 := List.all_eq_true.1 h1 j (List.mem_range.2 (hpre j hj))
      simp only [hoj, Bool.or_eq_true, Bool.and_eq_true] at h2
      rcases h2 with h2 | h2
      · exfalso
        have hjl : j < ops.size := (Array.getElem?_eq_some_iff.1 hoj).1
        have := hall j hjl h2
        have hjs : j < listed.size := by omega
        simp [hjs] at this hjun
        rw [this] at hjun
        cases hjun
      · exact h2
    have h' := pull hsel i oi hoi pre post hp a w hJ h
    simp only [CP, hoi] at h'
    refine h'.wpOp hoi hJ (fun a1 w1 hJ1 hk => ?_)
    have hrem' : Rem ops.size (listed.setIfInBounds i true) = pre ++ post := by rw [Rem_set _ _ _ h0, hfil]
    refine ih _ a1 w1 (by simpa using hsz) ?_ ?_ hJ1 (by rw [hrem']; exact hk)
    · intro k hk j hj hb
      by_cases hki : i = k
      · subst hki
        exact getD_set_true (hall j hj hb)
      · rw [getD_set_ne false hki] at hk
        exact getD_set_true (hcl k hk j hj hb)
    · rw [hrem']
      rw [hsplit] at hlen
      simp at hlen ⊢
      omega

theorem region_text {id : Nat} {J : World → Prop} {cl : Nat → Cls} {Q : Exit → Act → World → Prop} {a : Act} {w : World} (hm : P.follows .mixedOrders = true)
    (hok : regOk ops cl = true) (hJ : J w.drew) (h : CP P ops J cl (fun a w => Q .normal a w) (List.range ops.size) a w.drew) : (Code.region id ops true).wp P Q a w := by
  refine wp_region_any hm ?_
  have hrem : Rem ops.size (Array.replicate ops.size false) = List.range ops.size := by
    unfold Rem
    refine List.filter_eq_self.2 fun i hi => ?_
    have := List.mem_range.1 hi
    simp [this]
  refine any_of_text hok ops.size _ a _ (by simp) ?_ (by rw [hrem]; simp) hJ (by rw [hrem]; exact h)
  intro i hi
  simp only [Array.getD_eq_getD_getElem?, Array.getElem?_replicate] at hi
  split at hi <;> simp at hi
end
end Go.Eng
