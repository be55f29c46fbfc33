/- The engine, part twelve: regions that draw their order, in an order of one's own, with loads that are held, and with one operation that floats. -/
import Derived.Test.YtlkgjffffeohdaaGreatEngB
set_option linter.unusedVariables false
set_option linter.unusedSimpArgs false
namespace Go.Eng
open Go

section
variable {P : Program} {ops : Array Oper}

def pairB (ops : Array Oper) (anc : Array Nat) (cl : Nat → Cls) (y x : Nat) : Bool :=
  (anc.getD x 0).testBit y || match ops[y]? with
    | none => true
    | some oy => match ops[x]? with
      | none => true
      | some ox => compat (cl y) (cl x) && oy.apart ops ox

def nodupB : List Nat → Bool
  | [] => true
  | x :: r => r.all (fun y => !Nat.beq x y) && nodupB r

def pwB (p : Nat → Nat → Bool) : List Nat → Bool
  | [] => true
  | x :: r => r.all (fun y => p x y) && pwB p r

theorem pwB_iff {p : Nat → Nat → Bool} : ∀ {l : List Nat}, pwB p l = true → l.Pairwise (fun x y => p x y = true)
  | [], _ => .nil
  | x :: r, h => by
    simp only [pwB, Bool.and_eq_true, List.all_eq_true] at h
    exact .cons h.1 (pwB_iff h.2)

theorem nodupB_iff : ∀ {l : List Nat}, nodupB l = true → l.Nodup
  | [], _ => .nil
  | x :: r, h => by
    simp only [nodupB, Bool.and_eq_true, List.all_eq_true] at h
    refine .cons (fun y hy => ?_) (nodupB_iff h.2)
    have := h.1 y hy
    intro e; subst e; simp [Nat.beq_refl] at this

def baseOk (ops : Array Oper) (ord : List Nat) : Bool :=
  Region.noSelect ops && ancOk ops (Region.before ops) && topOk ops && nodupB ord && (List.range ops.size).all (fun i => ord.contains i) && ord.all (fun i => Nat.blt i ops.size)

def linOk (ops : Array Oper) (cl : Nat → Cls) (ord : List Nat) : Bool :=
  baseOk ops ord && pwB (pairB ops (Region.before ops) cl) ord

def unl (listed : Array Bool) (l : List Nat) : List Nat := l.filter fun i => !listed.getD i true

theorem unl_split {l : List Nat} {listed : Array Bool} (hl : l.Nodup) {i : Nat} (hi : i ∈ unl listed l) (h0 : listed.getD i true = false) :
    ∃ pre post, unl listed l = pre ++ i :: post ∧ unl (listed.setIfInBounds i true) l = pre ++ post := by
  obtain ⟨pre, post, hs⟩ := List.append_of_mem hi
  refine ⟨pre, post, hs, ?_⟩
  have hn : (unl listed l).Nodup := List.Nodup.sublist List.filter_sublist hl
  have hset : unl (listed.setIfInBounds i true) l = (unl listed l).filter (fun x => x != i) := by
    unfold unl
    rw [List.filter_filter]
    congr 1
    funext x
    by_cases hx : i = x
    · subst hx
      have : i < listed.size := by
        rcases Nat.lt_or_ge i listed.size with h' | h'
        · exact h'
        · simp [Array.getElem?_eq_none h'] at h0
      simp [this]
    · rw [getD_set_ne true hx]
      have : (x != i) = true := by simp; exact fun e => hx e.symm
      rw [this, Bool.true_and]
  rw [hset, hs]
  rw [hs] at hn
  rw [List.filter_append, List.filter_cons]
  simp only [bne_self_eq_false, Bool.false_eq_true, if_false]
  rw [List.nodup_append] at hn
  rw [List.filter_eq_self.2, List.filter_eq_self.2]
  · intro x hx
    have := (List.nodup_cons.1 hn.2.1).1
    simp; rintro rfl; exact this hx
  · intro x hx
    have := hn.2.2 x hx i (List.mem_cons_self ..)
    simp; exact this

theorem no_ready {ord : List Nat} (htop : topOk ops = true) {listed : Array Bool} (hsz : listed.size = ops.size) (hr : Region.ready .any ops listed = []) : Rem ops.size listed = [] := by
  cases hrem : Rem ops.size listed with
  | nil => rfl
  | cons i r =>
    exfalso
    have him : i ∈ Rem ops.size listed := by rw [hrem]; exact List.mem_cons_self ..
    have hi1 := List.mem_filter.1 him
    have hlt := List.mem_range.1 hi1.1
    have : i ∈ Region.ready .any ops listed := by
      rw [mem_ready]
      refine ⟨by simpa using hi1.2, ops[i], by simp [hlt], ?_⟩
      intro e he hb
      have ht := List.all_eq_true.1 htop i (List.mem_range.2 hlt)
      simp only [Array.getElem?_eq_getElem hlt] at ht
      have he' := Array.all_eq_true_iff_forall_mem.1 ht e he
      simp only [hb, Bool.not_true, Bool.false_or, Nat.blt_eq] at he'
      have hpw := Rem_pairwise ops.size listed
      rw [hrem, List.pairwise_cons] at hpw
      by_cases hle : listed.getD e.on true = false
      · have hm : e.on ∈ Rem ops.size listed := List.mem_filter.2 ⟨List.mem_range.2 (by omega), by rw [hle]; rfl⟩
        rw [hrem] at hm
        rcases List.mem_cons.1 hm with h | h
        · omega
        · have := hpw.1 _ h; omega
      · have hon : e.on < listed.size := by omega
        simp [hon] at hle ⊢; exact hle
    rw [hr] at this
    cases this

theorem unl_empty {ord : List Nat} {listed : Array Bool} (hb : ∀ i ∈ ord, i < ops.size) (h : Rem ops.size listed = []) : unl listed ord = [] := by
  refine List.filter_eq_nil_iff.2 fun i hi hc => ?_
  have : i ∈ Rem ops.size listed := List.mem_filter.2 ⟨List.mem_range.2 (hb i hi), hc⟩
  rw [h] at this; cases this

/-- what a region's check says -/
structure Chk (ops : Array Oper) (ord : List Nat) : Prop where
  sel : Region.noSelect ops = true
  anc : ancOk ops (Region.before ops) = true
  top : topOk ops = true
  nd : ord.Nodup
  all : ∀ i, i < ops.size → i ∈ ord
  lt : ∀ i ∈ ord, i < ops.size

theorem baseOk_chk {ord : List Nat} (h : baseOk ops ord = true) : Chk ops ord := by
  simp only [baseOk, Bool.and_eq_true] at h
  obtain ⟨⟨⟨⟨⟨h1, h2⟩, h3⟩, h4⟩, h5⟩, h6⟩ := h
  refine ⟨h1, h2, h3, nodupB_iff h4, fun i hi => ?_, fun i hi => ?_⟩
  · have := List.all_eq_true.1 h5 i (List.mem_range.2 hi)
    simpa using this
  · have := List.all_eq_true.1 h6 i hi
    simpa [Nat.blt_eq] using this

/-- all that a ready operation needs is listed -/
theorem anc_listed {ord : List Nat} (hc : Chk ops ord) {listed : Array Bool} (hcl : Closed ops (Region.before ops) listed) {i : Nat} (hi : i ∈ Region.ready .any ops listed) :
    ∀ j, j < ops.size → ((Region.before ops).getD i 0).testBit j = true → listed.getD j false = true := by
  obtain ⟨h0, oi, hoi, hdeps⟩ := mem_ready.1 hi
  have hilt := (Array.getElem?_eq_some_iff.1 hoi).1
  intro j hj hb
  have h1 := List.all_eq_true.1 hc.anc i (List.mem_range.2 hilt)
  simp only [hoi] at h1
  have h2 := List.all_eq_true.1 h1 j (List.mem_range.2 hj)
  rw [hb] at h2
  simp only [Bool.not_true, Bool.false_or] at h2
  obtain ⟨e, he, hbe⟩ := Array.any_eq_true'.1 h2
  simp only [Bool.and_eq_true, Bool.or_eq_true, beq_iff_eq] at hbe
  have hl := hdeps e he hbe.1
  rcases hbe.2 with h3 | h3
  · rw [← h3]; exact hl
  · exact hcl _ hl j hj h3

theorem unl_not_listed {l : List Nat} {listed : Array Bool} (hsz : listed.size = ops.size) {j : Nat} (hj : j ∈ unl listed l) (hlt : j < ops.size) (hl : listed.getD j false = true) : False := by
  have hjun := (List.mem_filter.1 hj).2
  have hjs : j < listed.size := by omega
  simp [hjs] at hl hjun
  rw [hl] at hjun
  cases hjun

theorem pair_compat {cl : Nat → Cls} {listed : Array Bool} {ord l : List Nat} (hc : Chk ops ord) (hsz : listed.size = ops.size) (hcl : Closed ops (Region.before ops) listed) {i j : Nat} (hi : i ∈ Region.ready .any ops listed)
    (hj : j ∈ unl listed l) (hp : pairB ops (Region.before ops) cl j i = true) : ∀ oj, ops[j]? = some oj → ∀ oi, ops[i]? = some oi → compat (cl j) (cl i) = true ∧ oj.apart ops oi = true := by
  intro oj hoj oi hoi
  simp only [pairB, hoj, hoi, Bool.or_eq_true, Bool.and_eq_true] at hp
  rcases hp with h | h
  · exfalso
    have hjl : j < ops.size := (Array.getElem?_eq_some_iff.1 hoj).1
    exact unl_not_listed hsz hj hjl (anc_listed hc hcl hi j hjl h)
  · exact h

theorem closed_set {ord : List Nat} (hc : Chk ops ord) {listed : Array Bool} (hcl : Closed ops (Region.before ops) listed) {i : Nat} (hi : i ∈ Region.ready .any ops listed) :
    Closed ops (Region.before ops) (listed.setIfInBounds i true) := by
  have hall := anc_listed hc hcl hi
  intro k hk j hj hb
  by_cases hki : i = k
  · subst hki
    exact getD_set_true (hall j hj hb)
  · rw [getD_set_ne false hki] at hk
    exact getD_set_true (hcl k hk j hj hb)

theorem any_of_list {J : World → Prop} {cl : Nat → Cls} {Q : Exit → Act → World → Prop} {full ord : List Nat} (hc : Chk ops full) (hnd : ord.Nodup) (hlt : ∀ i ∈ ord, i < ops.size) (hpw : ord.Pairwise (fun y x => pairB ops (Region.before ops) cl y x = true)) :
    ∀ (fuel : Nat) (listed : Array Bool) (a : Act) (w : World), listed.size = ops.size → Closed ops (Region.before ops) listed → (unl listed ord).length ≤ fuel → J w →
      (∀ i, i < ops.size → listed.getD i true = false → i ∈ ord) → CP P ops J cl (fun a w => Q .normal a w) (unl listed ord) a w → wpAny P .any ops Q fuel listed a w := by
  intro fuel
  induction fuel with
  | zero =>
    intro listed a w hsz hcl hlen hJ hin h
    have hrem : unl listed ord = [] := List.length_eq_zero_iff.1 (by omega)
    refine ⟨?_, by rw [hrem] at h; exact h⟩
    cases hr : Region.ready .any ops listed with
    | nil => rfl
    | cons i r =>
      exfalso
      have him : i ∈ Region.ready .any ops listed := by rw [hr]; exact List.mem_cons_self ..
      obtain ⟨h0, o, ho, _⟩ := mem_ready.1 him
      have : i ∈ unl listed ord := List.mem_filter.2 ⟨hin i (Array.getElem?_eq_some_iff.1 ho).1 h0, by rw [h0]; rfl⟩
      rw [hrem] at this
      cases this
  | succ fuel ih =>
    intro listed a w hsz hcl hlen hJ hin h
    refine ⟨fun hr => by rw [unl_empty hlt (no_ready (ord := ord) hc.top hsz hr)] at h; exact h, fun i hi => ?_⟩
    obtain ⟨h0, oi, hoi, hdeps⟩ := mem_ready.1 hi
    have hilt := (Array.getElem?_eq_some_iff.1 hoi).1
    have him : i ∈ unl listed ord := List.mem_filter.2 ⟨hin i hilt h0, by rw [h0]; rfl⟩
    obtain ⟨pre, post, hsplit, hfil⟩ := unl_split hnd him h0
    rw [hsplit] at h
    have hp : ∀ j ∈ pre, ∀ oj, ops[j]? = some oj → compat (cl j) (cl i) = true ∧ oj.apart ops oi = true := by
      intro j hj oj hoj
      have h2 : (unl listed ord).Pairwise (fun y x => pairB ops (Region.before ops) cl y x = true) := List.Pairwise.sublist List.filter_sublist hpw
      rw [hsplit, List.pairwise_append] at h2
      exact pair_compat hc hsz hcl hi (l := ord) (by rw [hsplit]; exact List.mem_append_left _ hj) (h2.2.2 j hj i (List.mem_cons_self ..)) oj hoj oi hoi
    have h' := pull hc.sel i oi hoi pre post hp a w hJ h
    simp only [CP, hoi] at h'
    refine h'.wpOp hoi hJ (fun a1 w1 hJ1 hk => ?_)
    refine ih _ a1 w1 (by simpa using hsz) (closed_set hc hcl hi) ?_ hJ1 ?_ (by rw [hfil]; exact hk)
    · rw [hfil]
      rw [hsplit] at hlen
      simp at hlen ⊢
      omega
    · intro k hk hkl
      by_cases hki : i = k
      · subst hki; exact hin i hk h0
      · rw [getD_set_ne true hki] at hkl; exact hin k hk hkl

/-! ### one operation that floats -/
def isMainC : Cls → Bool
  | .main => true
  | _ => false

def fk (ops : Array Oper) (cl : Nat → Cls) (A : Nat) (i : Nat) : Bool := isMainC (cl i) && !((Region.before ops).getD A 0).testBit i

def CPF (P : Program) (ops : Array Oper) (J : World → Prop) (cl : Nat → Cls) (Q : Act → World → Prop) (A : Nat) (post : List Nat) : List Nat → Act → World → Prop
  | [], a, w => CP P ops J cl Q (A :: post) a w
  | i :: r, a, w => match ops[i]? with
    | none => CPF P ops J cl Q A post r a w
    | some o => match fk ops cl A i with
      | true => CP P ops J cl Q (A :: i :: (r ++ post)) a w ∧ Out P ops J (cl i) o a w (CPF P ops J cl Q A post r)
      | false => Out P ops J (cl i) o a w (CPF P ops J cl Q A post r)

def preOk (ops : Array Oper) (cl : Nat → Cls) (A y : Nat) : Bool :=
  isMainC (cl y) || ((Region.before ops).getD A 0).testBit y || match ops[y]? with
    | none => true
    | some oy => match ops[A]? with
      | none => true
      | some oA => compat (cl y) (cl A) && compat (cl A) (cl y) && oy.apart ops oA && oA.apart ops oy

def fkOk (ops : Array Oper) (cl : Nat → Cls) (A i y : Nat) : Bool := !fk ops cl A i || !((Region.before ops).getD A 0).testBit y

def floOk (ops : Array Oper) (cl : Nat → Cls) (A : Nat) (pre post : List Nat) : Bool :=
  baseOk ops (pre ++ A :: post) && pwB (pairB ops (Region.before ops) cl) (pre ++ post) && pre.all (preOk ops cl A) && post.all (pairB ops (Region.before ops) cl A) && pwB (fkOk ops cl A) pre

theorem Out.both {J : World → Prop} {c : Cls} {o : Oper} {a : Act} {w : World} {K K' : Act → World → Prop} (hc : isMainC c = false) (h : Out P ops J c o a w K) (h' : Out P ops J c o a w K') (hJ : J w) :
    Out P ops J c o a w (fun a w => K a w ∧ K' a w) := by
  unfold Out at *
  split
  · rename_i hw
    rw [if_pos hw] at h h'
    cases c with
    | main => cases hc
    | free =>
      obtain ⟨v, hv, hk⟩ := h
      obtain ⟨v', hv', hk'⟩ := h'
      have := (hv w hJ).symm.trans (hv' w hJ)
      simp only [Result.ok.injEq, Next.value.injEq, and_true] at this
      subst this
      exact ⟨v, hv, hk, hk'⟩
    | read =>
      obtain ⟨v, hv, hk⟩ := h
      obtain ⟨v', hv', hk'⟩ := h'
      have := hv.symm.trans hv'
      simp only [Result.ok.injEq, Next.value.injEq, and_true] at this
      subst this
      exact ⟨v, hv, hk, hk'⟩
  · rename_i hw
    rw [if_neg hw] at h h'
    exact ⟨h, h'⟩

/-- the floating operation is drawn -/
theorem pullA {J : World → Prop} {cl : Nat → Cls} {Q : Act → World → Prop} (hsel : Region.noSelect ops = true) {A : Nat} {oA : Oper} (hA : ops[A]? = some oA) (post : List Nat) :
    ∀ (pre : List Nat), (∀ j ∈ pre, ((Region.before ops).getD A 0).testBit j = false ∧ preOk ops cl A j = true) →
      ∀ a w, J w → CPF P ops J cl Q A post pre a w → CP P ops J cl Q (A :: (pre ++ post)) a w
  | [], _, a, w, _, h => h
  | i :: pre, hp, a, w, hJ, h => by
    have ih := pullA (J := J) (cl := cl) (Q := Q) hsel hA post pre (fun k hk => hp k (List.mem_cons_of_mem _ hk))
    obtain ⟨hna, hok⟩ := hp i (List.mem_cons_self ..)
    simp only [CPF] at h
    cases hi : ops[i]? with
    | none =>
      rw [hi] at h
      have := ih a w hJ h
      simpa only [List.cons_append, CP, hA, hi] using this
    | some oi =>
      rw [hi] at h
      simp only at h
      cases hm : isMainC (cl i) with
      | true =>
        have hf : fk ops cl A i = true := by unfold fk; rw [hm, hna]; rfl
        rw [hf] at h
        exact h.1
      | false =>
        have hf : fk ops cl A i = false := by unfold fk; rw [hm]; rfl
        rw [hf] at h
        simp only at h
        simp only [preOk, hm, hna, hi, hA, Bool.false_or, Bool.and_eq_true] at hok
        have h1 : Out P ops J (cl i) oi a w (fun a1 w1 => Out P ops J (cl A) oA a1 w1 (CP P ops J cl Q (pre ++ post))) :=
          h.mono hJ (fun a1 w1 hJ1 hk => by have := ih a1 w1 hJ1 hk; simpa only [CP, hA] using this)
        have h2 := swap hJ hok.1.1.1 (fun cs b => Region.noSelect_spec hsel i oi cs b hi) (fun cs b => Region.noSelect_spec hsel A oA cs b hA) hok.1.2 h1
        simpa only [List.cons_append, CP, hA, hi] using h2

/-- another one is drawn, out of the operations ahead or behind -/
theorem pullF {J : World → Prop} {cl : Nat → Cls} {Q : Act → World → Prop} (hsel : Region.noSelect ops = true) {A : Nat} {oA : Oper} (hA : ops[A]? = some oA) {x : Nat} {ox : Oper} (hx : ops[x]? = some ox) :
    ∀ (pre : List Nat) (post post' : List Nat), (∀ j ∈ pre, ∀ oj, ops[j]? = some oj → compat (cl j) (cl x) = true ∧ oj.apart ops ox = true) → compat (cl A) (cl x) = true ∧ oA.apart ops ox = true →
      (∀ j ∈ post, ∀ oj, ops[j]? = some oj → compat (cl j) (cl x) = true ∧ oj.apart ops ox = true) →
      ∀ a w, J w → CPF P ops J cl Q A (post ++ x :: post') pre a w → Out P ops J (cl x) ox a w (CPF P ops J cl Q A (post ++ post') pre)
  | [], post, post', hp, hcA, hpo, a, w, hJ, h => by
    have h' := pull (J := J) (cl := cl) (Q := Q) hsel x ox hx (A :: post) post' (fun j hj oj hoj => by
      rcases List.mem_cons.1 hj with e | hj
      · subst e; rw [hA] at hoj; cases hoj; exact hcA
      · exact hpo j hj oj hoj) a w hJ (by simpa only [CPF, List.cons_append] using h)
    simp only [CP, hx] at h'
    exact h'
  | i :: pre, post, post', hp, hcA, hpo, a, w, hJ, h => by
    have ih := pullF (J := J) (cl := cl) (Q := Q) hsel hA hx pre post post' (fun k hk => hp k (List.mem_cons_of_mem _ hk)) hcA hpo
    simp only [CPF] at h ⊢
    cases hi : ops[i]? with
    | none => rw [hi] at h; exact ih a w hJ h
    | some oi =>
      rw [hi] at h
      simp only at h ⊢
      obtain ⟨hc1, hc2⟩ := hp i (List.mem_cons_self ..) oi hi
      have tail : Out P ops J (cl i) oi a w (CPF P ops J cl Q A (post ++ x :: post') pre) → Out P ops J (cl x) ox a w (fun a2 w2 => Out P ops J (cl i) oi a2 w2 (CPF P ops J cl Q A (post ++ post') pre)) := fun h =>
        swap hJ hc1 (fun cs b => Region.noSelect_spec hsel i oi cs b hi) (fun cs b => Region.noSelect_spec hsel x ox cs b hx) hc2 (h.mono hJ (fun a1 w1 hJ1 hk => ih a1 w1 hJ1 hk))
      cases hf : fk ops cl A i with
      | false => rw [hf] at h; exact tail h
      | true =>
        rw [hf] at h
        simp only at h
        have hmi : isMainC (cl i) = true := by unfold fk at hf; simp only [Bool.and_eq_true] at hf; exact hf.1
        have hmx : isMainC (cl x) = false := by
          cases hq : cl x with
          | main => cases hr : cl i <;> rw [hr] at hmi hc1 <;> rw [hq] at hc1 <;> simp [compat, isMainC] at *
          | free => rfl
          | read => rfl
        refine Out.both hmx ?_ (tail h.2) hJ
        have h' := pull (J := J) (cl := cl) (Q := Q) hsel x ox hx (A :: i :: (pre ++ post)) post' (fun j hj oj hoj => by
          rcases List.mem_cons.1 hj with e | hj
          · subst e; rw [hA] at hoj; cases hoj; exact hcA
          · rcases List.mem_cons.1 hj with e | hj
            · subst e; rw [hi] at hoj; cases hoj; exact ⟨hc1, hc2⟩
            · rcases List.mem_append.1 hj with hj | hj
              · exact hp j (List.mem_cons_of_mem _ hj) oj hoj
              · exact hpo j hj oj hoj) a w hJ (by simpa only [List.append_assoc, List.cons_append] using h.1)
        have h2 : Out P ops J (cl x) ox a w (CP P ops J cl Q (A :: i :: (pre ++ post) ++ post')) := by simpa only [CP, hx] using h'
        simpa only [List.append_assoc, List.cons_append] using h2

theorem pullP {J : World → Prop} {cl : Nat → Cls} {Q : Act → World → Prop} (hsel : Region.noSelect ops = true) {A : Nat} {oA : Oper} (hA : ops[A]? = some oA) {x : Nat} {ox : Oper} (hx : ops[x]? = some ox)
    (hox : preOk ops cl A x = true) (post : List Nat) :
    ∀ (pre pre' : List Nat), (∀ j ∈ pre, ∀ oj, ops[j]? = some oj → compat (cl j) (cl x) = true ∧ oj.apart ops ox = true) → (∀ j ∈ pre, fkOk ops cl A j x = true) →
      ∀ a w, J w → CPF P ops J cl Q A post (pre ++ x :: pre') a w → Out P ops J (cl x) ox a w (CPF P ops J cl Q A post (pre ++ pre'))
  | [], pre', hp, hfk, a, w, hJ, h => by
    simp only [List.nil_append, CPF, hx] at h
    split at h
    · exact h.2
    · exact h
  | i :: pre, pre', hp, hfk, a, w, hJ, h => by
    have ih := pullP (J := J) (cl := cl) (Q := Q) hsel hA hx hox post pre pre' (fun k hk => hp k (List.mem_cons_of_mem _ hk)) (fun k hk => hfk k (List.mem_cons_of_mem _ hk))
    simp only [List.cons_append, CPF] at h ⊢
    cases hi : ops[i]? with
    | none => rw [hi] at h; exact ih a w hJ h
    | some oi =>
      rw [hi] at h
      simp only at h ⊢
      obtain ⟨hc1, hc2⟩ := hp i (List.mem_cons_self ..) oi hi
      have tail : Out P ops J (cl i) oi a w (CPF P ops J cl Q A post (pre ++ x :: pre')) → Out P ops J (cl x) ox a w (fun a2 w2 => Out P ops J (cl i) oi a2 w2 (CPF P ops J cl Q A post (pre ++ pre'))) := fun h =>
        swap hJ hc1 (fun cs b => Region.noSelect_spec hsel i oi cs b hi) (fun cs b => Region.noSelect_spec hsel x ox cs b hx) hc2 (h.mono hJ (fun a1 w1 hJ1 hk => ih a1 w1 hJ1 hk))
      cases hf : fk ops cl A i with
      | false => rw [hf] at h; exact tail h
      | true =>
        rw [hf] at h
        simp only at h
        have hmi : isMainC (cl i) = true := by unfold fk at hf; simp only [Bool.and_eq_true] at hf; exact hf.1
        have hmx : isMainC (cl x) = false := by
          cases hq : cl x with
          | main => cases hr : cl i <;> rw [hr] at hmi hc1 <;> rw [hq] at hc1 <;> simp [compat, isMainC] at *
          | free => rfl
          | read => rfl
        have hcA : compat (cl A) (cl x) = true ∧ oA.apart ops ox = true := by
          have h1 := hfk i (List.mem_cons_self ..)
          simp only [fkOk, hf, Bool.not_true, Bool.false_or, Bool.not_eq_true'] at h1
          simp only [preOk, hmx, h1, hx, hA, Bool.false_or, Bool.and_eq_true] at hox
          exact ⟨hox.1.1.2, hox.2⟩
        refine Out.both hmx ?_ (tail h.2) hJ
        have h' := pull (J := J) (cl := cl) (Q := Q) hsel x ox hx (A :: i :: pre) (pre' ++ post) (fun j hj oj hoj => by
          rcases List.mem_cons.1 hj with e | hj
          · subst e; rw [hA] at hoj; cases hoj; exact hcA
          · rcases List.mem_cons.1 hj with e | hj
            · subst e; rw [hi] at hoj; cases hoj; exact ⟨hc1, hc2⟩
            · exact hp j (List.mem_cons_of_mem _ hj) oj hoj) a w hJ (by simpa only [List.append_assoc, List.cons_append] using h.1)
        have h2 : Out P ops J (cl x) ox a w (CP P ops J cl Q (A :: i :: pre ++ (pre' ++ post))) := by simpa only [CP, hx] using h'
        simpa only [List.append_assoc, List.cons_append] using h2

theorem CPF_nil_end {J : World → Prop} {cl : Nat → Cls} {Q Q' : Act → World → Prop} (hq : ∀ a w, Q a w → Q' a w) : ∀ (r : List Nat) (a : Act) (w : World), J w → CP P ops J cl Q r a w → CP P ops J cl Q' r a w
  | [], a, w, _, h => hq a w h
  | i :: r, a, w, hJ, h => by
    simp only [CP] at h ⊢
    cases ho : ops[i]? with
    | none => rw [ho] at h; exact CPF_nil_end hq r a w hJ h
    | some o => rw [ho] at h; exact h.mono hJ (fun a w hJ hk => CPF_nil_end hq r a w hJ hk)

theorem CPF_end {J : World → Prop} {cl : Nat → Cls} {Q Q' : Act → World → Prop} (hq : ∀ a w, Q a w → Q' a w) {A : Nat} {post : List Nat} : ∀ (r : List Nat) (a : Act) (w : World), J w → CPF P ops J cl Q A post r a w → CPF P ops J cl Q' A post r a w
  | [], a, w, hJ, h => CPF_nil_end hq _ a w hJ h
  | i :: r, a, w, hJ, h => by
    simp only [CPF] at h ⊢
    cases ho : ops[i]? with
    | none => rw [ho] at h; exact CPF_end hq r a w hJ h
    | some o =>
      rw [ho] at h
      simp only at h ⊢
      cases hf : fk ops cl A i with
      | false => rw [hf] at h; exact h.mono hJ (fun a w hJ hk => CPF_end hq r a w hJ hk)
      | true => rw [hf] at h; exact ⟨CPF_nil_end hq _ a w hJ h.1, h.2.mono hJ (fun a w hJ hk => CPF_end hq r a w hJ hk)⟩

theorem any_of_float {J : World → Prop} {cl : Nat → Cls} {Q : Exit → Act → World → Prop} {A : Nat} {oA : Oper} (hA : ops[A]? = some oA) {pre post : List Nat} (hok : floOk ops cl A pre post = true) :
    ∀ (fuel : Nat) (listed : Array Bool) (a : Act) (w : World), listed.size = ops.size → Closed ops (Region.before ops) listed → (unl listed (pre ++ A :: post)).length ≤ fuel → J w → listed.getD A true = false →
      CPF P ops J cl (fun a w => Q .normal a w) A (unl listed post) (unl listed pre) a w → wpAny P .any ops Q fuel listed a w := by
  simp only [floOk, Bool.and_eq_true] at hok
  obtain ⟨⟨⟨⟨hb, hpw⟩, hpre⟩, hpost⟩, hfk⟩ := hok
  have hc := baseOk_chk hb
  have hpw := pwB_iff hpw
  have hfk := pwB_iff hfk
  have hnd := hc.nd
  have hnd' : (pre ++ post).Nodup := List.Nodup.sublist (List.Sublist.append (List.Sublist.refl _) (List.sublist_cons_self A post)) hnd
  have hAn : A ∉ pre ++ post := by
    rw [List.nodup_append] at hnd
    intro hm
    rcases List.mem_append.1 hm with h | h
    · exact hnd.2.2 A h A (List.mem_cons_self ..) rfl
    · exact (List.nodup_cons.1 hnd.2.1).1 h
  have uapp : ∀ (listed : Array Bool) (l l' : List Nat), unl listed (l ++ l') = unl listed l ++ unl listed l' := fun _ _ _ => List.filter_append ..
  have ucons : ∀ (listed : Array Bool) (l : List Nat), listed.getD A true = false → unl listed (A :: l) = A :: unl listed l := fun listed l h => by unfold unl; rw [List.filter_cons_of_pos (by rw [h]; rfl)]
  have uset : ∀ (listed : Array Bool) (l : List Nat), A ∉ l → unl (listed.setIfInBounds A true) l = unl listed l := fun listed l h => by
    unfold unl
    refine List.filter_congr fun x hx => ?_
    have : A ≠ x := fun e => h (e ▸ hx)
    rw [getD_set_ne true this]
  intro fuel
  induction fuel with
  | zero =>
    intro listed a w hsz hcl hlen hJ hAl h
    rw [uapp, ucons _ _ hAl] at hlen
    simp at hlen
  | succ fuel ih =>
    intro listed a w hsz hcl hlen hJ hAl h
    have hAlt : A < ops.size := (Array.getElem?_eq_some_iff.1 hA).1
    refine ⟨fun hr => ?_, fun i hi => ?_⟩
    · exfalso
      have h1 := no_ready (ord := pre) hc.top hsz hr
      have : A ∈ Rem ops.size listed := List.mem_filter.2 ⟨List.mem_range.2 hAlt, by rw [hAl]; rfl⟩
      rw [h1] at this; cases this
    · obtain ⟨h0, oi, hoi, hdeps⟩ := mem_ready.1 hi
      have hilt := (Array.getElem?_eq_some_iff.1 hoi).1
      by_cases hiA : i = A
      · -- the floating one
        subst hiA
        rw [hA] at hoi; cases hoi
        have h' := pullA hc.sel hA (unl listed post) (unl listed pre) (fun j hj => by
          have hjp : j ∈ pre := (List.mem_filter.1 hj).1
          have hjl : j < ops.size := hc.lt j (List.mem_append_left _ hjp)
          refine ⟨?_, List.all_eq_true.1 hpre j hjp⟩
          cases hb : ((Region.before ops).getD i 0).testBit j with
          | false => rfl
          | true => exact (unl_not_listed hsz hj hjl (anc_listed hc hcl hi j hjl hb)).elim) a w hJ h
        simp only [CP, hA] at h'
        refine h'.wpOp hA hJ (fun a1 w1 hJ1 hk => ?_)
        have e1 : unl (listed.setIfInBounds i true) (pre ++ post) = unl listed pre ++ unl listed post := by
          rw [uset _ _ hAn, uapp]
        refine any_of_list hc hnd' (fun j hj => hc.lt j (by
          rcases List.mem_append.1 hj with h | h
          · exact List.mem_append_left _ h
          · exact List.mem_append_right _ (List.mem_cons_of_mem _ h))) hpw fuel _ a1 w1 (by simpa using hsz) (closed_set hc hcl hi) ?_ hJ1 ?_ (by rw [e1]; exact hk)
        · rw [e1]
          rw [uapp, ucons _ _ hAl] at hlen
          simp at hlen ⊢
          omega
        · intro k hk hkl
          have := hc.all k hk
          rcases List.mem_append.1 this with h | h
          · exact List.mem_append_left _ h
          · rcases List.mem_cons.1 h with h | h
            · subst h
              have hkl2 : k < listed.size := by omega
              simp [hkl2] at hkl
            · exact List.mem_append_right _ h
      · have hAl' : (listed.setIfInBounds i true).getD A true = false := by rw [getD_set_ne true hiA]; exact hAl
        have him := hc.all i hilt
        have pw2 : (unl listed (pre ++ post)).Pairwise (fun y x => pairB ops (Region.before ops) cl y x = true) := List.Pairwise.sublist List.filter_sublist hpw
        rw [uapp] at pw2
        have hndpre : pre.Nodup := (List.nodup_append.1 hnd').1
        have hndpost : post.Nodup := (List.nodup_append.1 hnd').2.1
        rcases List.mem_append.1 him with hip | hip
        · -- out of the ones ahead
          have himu : i ∈ unl listed pre := List.mem_filter.2 ⟨hip, by rw [h0]; rfl⟩
          obtain ⟨p1, p2, hs, hf⟩ := unl_split hndpre himu h0
          rw [hs] at h
          have hinp : i ∉ post := fun hq => (List.nodup_append.1 hnd').2.2 i hip i hq rfl
          have hpost' : unl (listed.setIfInBounds i true) post = unl listed post := by
            unfold unl
            refine List.filter_congr fun x hx => ?_
            have : i ≠ x := fun e => hinp (e ▸ hx)
            rw [getD_set_ne true this]
          have h' := pullP hc.sel hA hoi (List.all_eq_true.1 hpre i hip) (unl listed post) p1 p2 (fun j hj oj hoj => by
            rw [hs] at pw2
            have hpp := pw2
            rw [List.append_assoc, List.cons_append, List.pairwise_append] at hpp
            exact pair_compat hc hsz hcl hi (l := pre) (by rw [hs]; exact List.mem_append_left _ hj) (hpp.2.2 j hj i (List.mem_cons_self ..)) oj hoj oi hoi) (fun j hj => by
            have h2 : (unl listed pre).Pairwise (fun y x => fkOk ops cl A y x = true) := List.Pairwise.sublist List.filter_sublist hfk
            rw [hs, List.pairwise_append] at h2
            exact h2.2.2 j hj i (List.mem_cons_self ..)) a w hJ h
          refine h'.wpOp hoi hJ (fun a1 w1 hJ1 hk => ?_)
          refine ih _ a1 w1 (by simpa using hsz) (closed_set hc hcl hi) ?_ hJ1 hAl' (by rw [hf, hpost']; exact hk)
          rw [uapp, ucons _ _ hAl', hf, hpost']
          rw [uapp, ucons _ _ hAl, hs] at hlen
          simp at hlen ⊢
          omega
        · have hip : i ∈ post := (List.mem_cons.1 hip).resolve_left hiA
          have himu : i ∈ unl listed post := List.mem_filter.2 ⟨hip, by rw [h0]; rfl⟩
          obtain ⟨p1, p2, hs, hf⟩ := unl_split hndpost himu h0
          rw [hs] at h
          have hinp : i ∉ pre := fun hq => (List.nodup_append.1 hnd').2.2 i hq i hip rfl
          have hpre' : unl (listed.setIfInBounds i true) pre = unl listed pre := by
            unfold unl
            refine List.filter_congr fun x hx => ?_
            have : i ≠ x := fun e => hinp (e ▸ hx)
            rw [getD_set_ne true this]
          rw [hs] at pw2
          have hpp := List.pairwise_append.1 pw2
          have h' := pullF hc.sel hA hoi (unl listed pre) p1 p2 (fun j hj oj hoj =>
            pair_compat hc hsz hcl hi (l := pre) hj (hpp.2.2 j hj i (List.mem_append_right _ (List.mem_cons_self ..))) oj hoj oi hoi)
            (pair_compat hc hsz hcl hi (l := pre ++ A :: post) (List.mem_filter.2 ⟨List.mem_append_right _ (List.mem_cons_self ..), by rw [hAl]; rfl⟩) (List.all_eq_true.1 hpost i hip) oA hA oi hoi)
            (fun j hj oj hoj => pair_compat hc hsz hcl hi (l := post) (by rw [hs]; exact List.mem_append_left _ hj) ((List.pairwise_append.1 hpp.2.1).2.2 j hj i (List.mem_cons_self ..)) oj hoj oi hoi) a w hJ h
          refine h'.wpOp hoi hJ (fun a1 w1 hJ1 hk => ?_)
          refine ih _ a1 w1 (by simpa using hsz) (closed_set hc hcl hi) ?_ hJ1 hAl' (by rw [hf, hpre']; exact hk)
          rw [uapp, ucons _ _ hAl', hf, hpre']
          rw [uapp, ucons _ _ hAl, hs] at hlen
          simp at hlen ⊢
          omega

theorem unl_all (l : List Nat) (hl : ∀ i ∈ l, i < ops.size) : unl (Array.replicate ops.size false) l = l := by
  unfold unl
  refine List.filter_eq_self.2 fun i hi => ?_
  have := hl i hi
  simp [this]

theorem closed_none : Closed ops (Region.before ops) (Array.replicate ops.size false) := by
  intro i hi
  simp only [Array.getD_eq_getD_getElem?, Array.getElem?_replicate] at hi
  split at hi <;> simp at hi

theorem nodup_len {l : List Nat} (hn : l.Nodup) {k : Nat} (hl : ∀ i ∈ l, i < k) : l.length ≤ k := by
  have : l ⊆ List.range k := fun i hi => List.mem_range.2 (hl i hi)
  have := List.Nodup.length_le_of_subset hn this
  simpa using this

theorem region_list {id : Nat} {J : World → Prop} {cl : Nat → Cls} {Q : Exit → Act → World → Prop} {a : Act} {w : World} {ord : List Nat} (hm : P.follows .mixedOrders = true)
    (hok : linOk ops cl ord = true) (hJ : J w.drew) (h : CP P ops J cl (fun a w => Q .normal a w) ord a w.drew) : (Code.region id ops true).wp P Q a w := by
  simp only [linOk, Bool.and_eq_true] at hok
  have hc := baseOk_chk hok.1
  refine wp_region_any hm ?_
  refine any_of_list hc hc.nd hc.lt (pwB_iff hok.2) ops.size _ a _ (by simp) closed_none (by rw [unl_all _ hc.lt]; exact nodup_len hc.nd hc.lt) hJ (fun i hi _ => hc.all i hi) (by rw [unl_all _ hc.lt]; exact h)

theorem region_float {id : Nat} {J : World → Prop} {cl : Nat → Cls} {Q : Exit → Act → World → Prop} {a : Act} {w : World} {A : Nat} {pre post : List Nat} (hm : P.follows .mixedOrders = true)
    (hok : floOk ops cl A pre post = true) (hJ : J w.drew) (h : CPF P ops J cl (fun a w => Q .normal a w) A post pre a w.drew) : (Code.region id ops true).wp P Q a w := by
  have hok' := hok
  simp only [floOk, Bool.and_eq_true] at hok'
  have hc := baseOk_chk hok'.1.1.1.1
  have hAlt : A < ops.size := hc.lt A (List.mem_append_right _ (List.mem_cons_self ..))
  refine wp_region_any hm ?_
  have h1 := unl_all (ops := ops) pre (fun i hi => hc.lt i (List.mem_append_left _ hi))
  have h2 := unl_all (ops := ops) post (fun i hi => hc.lt i (List.mem_append_right _ (List.mem_cons_of_mem _ hi)))
  refine any_of_float (oA := ops[A]) (by simp [hAlt]) hok ops.size _ a _ (by simp) closed_none (by rw [unl_all _ hc.lt]; exact nodup_len hc.nd hc.lt) hJ (by simp [hAlt]) (by rw [h1, h2]; exact h)
end
end Go.Eng
